/-
  Joined texts: Sp8, Sp9, Sp4, Sp5, Sp10, At3.
-/
import Derived.Test.YtmgeknghgngliaaGreatDoorMSpansTexts8
import Derived.Test.YtmgeknghgngliaaGreatDoorMSpansTexts6
import Derived.Deep.DeepCutAuto
/-
  The walk of the document's cuts.
-/
namespace Go.Proofs.YtmgeknghgngliaaGreatDoor
open Go Go.RowKit Go.Lib Go.Sort

/-- Sets in memory: a slice of slices of spans, all below B. -/
structure SetV where
  v : Value
  L : List SpanV
instance : Inhabited SetV := ⟨⟨.slice none 0 0, []⟩⟩
def svals (S : List SetV) : List Value := S.map (·.v)
def SetsAt (w : World) (B : Nat) (v : Value) (S : List SetV) : Prop :=
  Rd w B 1 v S.length (svals S) ∧ ∀ x ∈ S, Rd w B 2 x.v x.L.length (scells x.L)
theorem SetsAt.below {w w' : World} {B : Nat} {v : Value} {S : List SetV} (h : SetsAt w B v S) (hb : Below B w w') : SetsAt w' B v S := ⟨h.1.below hb, fun x hx => (h.2 x hx).below hb⟩
theorem SetsAt.mono {w : World} {B B' : Nat} {v : Value} {S : List SetV} (h : SetsAt w B v S) (hb : B ≤ B') : SetsAt w B' v S := ⟨h.1.mono hb, fun x hx => (h.2 x hx).mono hb⟩
def allS (S : List SetV) : List SpanV := S.flatMap (·.L)
theorem allS_succ {S : List SetV} {i : Nat} {x : SetV} (h : S[i]? = some x) : allS (S.take (i + 1)) = allS (S.take i) ++ x.L := by
  unfold allS
  rw [List.take_add_one, h, List.flatMap_append]
  simp
def CutsRes (most : Int) (S : List SpanV) (w : World) (e : Ending) (w' : World) : Prop :=
  ∃ v C, e = .returned v ∧ w'.ownsRow w.heap.size 22 1 v C.length (encU C) ∧ CutsOf most S C ∧ C.length ≤ 2 * S.length + 1 ∧ Below w.heap.size w w'
theorem CutsOf.zero (most : Int) : CutsOf most [] [0] := ⟨List.pairwise_singleton _ _, fun y hy => by simp at hy; omega, fun y => by simp⟩
theorem take_snoc {L : List SpanV} {k : Nat} {s : SpanV} (h : L[k]? = some s) : L.take (k + 1) = L.take k ++ [s] := by rw [List.take_add_one, h]; rfl
theorem CutsOf.skip {most : Int} {S : List SpanV} {C : List Int} (h : CutsOf most S C) {s : SpanV} (hs : ¬ s.lo ≤ s.hi) : CutsOf most (S ++ [s]) C := by
  refine ⟨h.1, h.2.1, fun y => (h.2.2 y).trans ⟨fun hh => hh.imp id (fun ⟨t, ht, hm⟩ => ⟨t, List.mem_append_left _ ht, hm⟩), fun hh => hh.imp id (fun ⟨t, ht, hm⟩ => ?_)⟩⟩
  rcases List.mem_append.1 ht with ht | ht
  · exact ⟨t, ht, hm⟩
  · obtain rfl := List.mem_singleton.1 ht
    exact absurd hm.1 hs
/-- Behind the two puts of a span. -/
theorem CutsOf.puts {most : Int} {S : List SpanV} {C C1 C2 : List Int} (h : CutsOf most S C) {s : SpanV} (hs : s.lo ≤ s.hi) (hm : most < 4294967296)
    (h1 : Rising C1 ∧ ∀ y, y ∈ C1 ↔ y ∈ C ∨ (y = s.lo ∧ s.lo ≤ most)) (h2 : Rising C2 ∧ ∀ y, y ∈ C2 ↔ y ∈ C1 ∨ (y = s.hi + 1 ∧ s.hi + 1 ≤ most)) : CutsOf most (S ++ [s]) C2 := by
  have hlo := s.hlo
  have hhi := s.hhi
  refine ⟨h2.1, fun y hy => ?_, fun y => ?_⟩
  · rcases (h2.2 y).1 hy with hy | ⟨rfl, _⟩
    · rcases (h1.2 y).1 hy with hy | ⟨rfl, _⟩
      · exact h.2.1 y hy
      · omega
    · omega
  · rw [h2.2, h1.2, h.2.2]
    constructor
    · rintro (((rfl | ⟨t, ht, hk⟩) | ⟨rfl, hk⟩) | ⟨rfl, hk⟩)
      · exact .inl rfl
      · exact .inr ⟨t, List.mem_append_left _ ht, hk⟩
      · exact .inr ⟨s, List.mem_append_right _ (List.mem_singleton.2 rfl), hs, .inl rfl, hk⟩
      · exact .inr ⟨s, List.mem_append_right _ (List.mem_singleton.2 rfl), hs, .inr rfl, hk⟩
    · rintro (rfl | ⟨t, ht, hk⟩)
      · exact .inl (.inl (.inl rfl))
      · rcases List.mem_append.1 ht with ht | ht
        · exact .inl (.inl (.inr ⟨t, ht, hk⟩))
        · obtain rfl := List.mem_singleton.1 ht
          rcases hk.2.1 with rfl | rfl
          · exact .inl (.inr ⟨rfl, hk.2.2⟩)
          · exact .inr ⟨rfl, hk.2.2⟩
theorem CutsOf.puts1 {most : Int} {S : List SpanV} {C C1 : List Int} (h : CutsOf most S C) {s : SpanV} (hs : s.lo ≤ s.hi) (hm : most < 4294967296)
    (h1 : Rising C1 ∧ ∀ y, y ∈ C1 ↔ y ∈ C ∨ (y = s.lo ∧ s.lo ≤ most)) (hn : ¬ s.hi < most) : CutsOf most (S ++ [s]) C1 :=
  h.puts hs hm h1 ⟨h1.1, fun y => ⟨.inl, fun hh => hh.elim id (fun hh => by omega)⟩⟩

set_option maxRecDepth 100000 in
set_option maxHeartbeats 4000000 in
theorem cuts_any (most : Int) (S : List SetV) (vs : Value) (w : World) (hS : SetsAt w w.heap.size vs S) (hm : 0 ≤ most ∧ most < 4294967296) (hlen : (allS S).length ≤ 1073741824) (hlen2 : S.length ≤ 1099511627776) :
    Calls Tryz.prog 137 #[.int .u32 most, vs] w (CutsRes most (allS S) w) := by
  obtain ⟨A0, c0, rfl, hc0⟩ := hS.1.form
  have HS := Lib.hid hS
  clear hS
  go_enter Tryz.func137, Tryz.ntmps137
  go_wp2
  go_loopw [5, 6] (fun v i wr => ∃ (j : Nat) (C : List Int), i = .int .i64 j ∧ j ≤ S.length ∧ wr.ownsRow w.heap.size 22 1 v C.length (encU C) ∧ CutsOf most (allS (S.take j)) C ∧ C.length ≤ 2 * (allS (S.take j)).length + 1 ∧ Below w.heap.size w wr) (fun _ i _ => S.length - (intOf i).toNat)
  case atStart => exact ⟨0, [0], rfl, by omega, World.ownsRow_lit (base := w.heap.size) (size := 1) w #[.int .u32 0] 1 (Nat.le_refl _) (by decide) rfl, CutsOf.zero most, by simp, below1 w _⟩
  case round =>
    obtain ⟨j, C, rfl, hj, hown, hC, hCl, hnx⟩ := hrel
    have hsz := hnx.size
    by_cases hlt : j < S.length
    · have hI : (j : Int) < (S.length : Int) := by omega
      obtain ⟨x, hx⟩ : ∃ x, S[j]? = some x := ⟨_, List.getElem?_eq_getElem hlt⟩
      have hxr := HS.out.2 x (List.mem_of_getElem? hx)
      obtain ⟨Ax, cx, hxv, hcx⟩ := hxr.form
      have HX := Lib.hid hx
      have HXR := Lib.hid hxr
      have HXV := Lib.hid hxv
      have HSTEP := Lib.hid (allS_succ hx)
      have hle : (allS (S.take (j + 1))).length ≤ (allS S).length := by
        have e : allS S = allS (S.take (j + 1)) ++ allS (S.drop (j + 1)) := by unfold allS; rw [← List.flatMap_append, List.take_append_drop]
        rw [e, List.length_append]; omega
      rw [HSTEP.out, List.length_append] at hle
      have hv0 : ∀ W, Below w.heap.size w W → ∃ b off, A0 = some ⟨b, off, none⟩ ∧ W.cell? ⟨b, off + j, none⟩ = some (.slice Ax x.L.length cx) := by
        intro W hW
        obtain ⟨b, off, c', hv, _, _, hcell⟩ := (HS.out.1.below hW).pos (by omega)
        injection hv with hv1 _ _
        exact ⟨b, off, hv1, hcell j _ (by simp [svals, HX.out, HXV.out])⟩
      obtain ⟨b, off, rfl, _⟩ := hv0 w (Below.refl _ _)
      have HV0 := Lib.hid hv0
      clear hv0 hx hxr hxv
      generalize allS (S.take j) = T at *
      go_wp2
      go_loopw [5, 7] (fun v i wx => ∃ (k : Nat) (D : List Int), i = .int .i64 k ∧ k ≤ x.L.length ∧ wx.ownsRow w.heap.size 22 1 v D.length (encU D) ∧ CutsOf most (T ++ x.L.take k) D ∧ D.length ≤ 2 * (T.length + k) + 1 ∧ Below w.heap.size w wx) (fun _ i _ => x.L.length - (intOf i).toNat)
      case atStart => exact ⟨0, C, rfl, by omega, hown, by simpa using hC, by omega, hnx⟩
      case round =>
        clear hown hC hCl hnx hsz
        obtain ⟨k, D, rfl, hk, hown, hD, hDl, hnx⟩ := hrel
        have hsz := hnx.size
        obtain ⟨b', off', hv, g0⟩ := HV0.out _ hnx
        injection hv with hv
        injection hv with hv1 hv2
        subst hv1 hv2
        by_cases hlt2 : k < x.L.length
        · have hI2 : (k : Int) < (x.L.length : Int) := by omega
          obtain ⟨s, hs⟩ : ∃ s, x.L[k]? = some s := ⟨_, List.getElem?_eq_getElem hlt2⟩
          obtain ⟨b2, o2, c', hv, _, hbB, hcell⟩ := (HXR.out.below hnx).posAt (by omega)
          rw [HXV.out] at hv
          injection hv with hv1 _ hv3
          subst hv1 hv3
          have f0 : wr.cell? ⟨b2, o2 + k * 2, none⟩ = some (.int .u32 s.lo) := hcell k 0 _ (scell hs rfl)
          have f1 : wr.cell? ⟨b2, o2 + k * 2 + 1, none⟩ = some (.int .u32 s.hi) := hcell k 1 _ (scell hs rfl)
          have HST2 := Lib.hid (take_snoc hs)
          have hlo := s.hlo
          have hhi := s.hhi
          clear hcell hs
          generalize x.L.take k = T2 at *
          by_cases hok : s.lo ≤ s.hi
          · have hKB := Lib.hid (blk1 wr (.cells #[.int .u32 s.lo, .int .u32 s.hi] 27))
            have hoff : ∀ g, u5.ownBlock = some g → g < wr.heap.size := fun g hg => (hown.lt g hg).2
            have hDl2 : D.length ≤ 1099511627776 := by omega
            have hput := put_any D u5 s.lo most w.heap.size (wr.alloc (.cells #[.int .u32 s.lo, .int .u32 s.hi] 27)) (hown.alloc _) hD.1 hD.2.1 hlo (by simp; omega) hDl2
            have HP := Lib.hid hput
            have HO := Lib.hid hown
            have HN := Lib.hid hnx
            have HD := Lib.hid hD
            have HOFF := Lib.hid hoff
            clear hput hown hnx hD hoff
            go_wp2_with fail
            refine HP.out.mono ?_
            rintro e w2 ⟨v2, D1, rfl, hown2, hr2, hm2, hl2, hgr2⟩
            have kb2 : w2.heap[wr.heap.size]? = some _ := (hgr2.block wr.heap.size (by simp) (fun hh => by have := HOFF.out _ hh.symm; omega)).trans hKB.out
            obtain ⟨y0, y1, _, _⟩ := two_cells kb2
            have nx2 := below_row (HN.out.alloc hsz (.cells #[.int .u32 s.lo, .int .u32 s.hi] 27)) (HO.out.alloc _) hgr2 (by simp; omega) (Nat.le_refl _)
            have hsz2 := nx2.size
            have HM2 := Lib.hid hm2
            have HR2 := Lib.hid hr2
            clear kb2 hgr2 HO HN HP f0 f1 hm2 hr2
            by_cases hhm : s.hi < most
            · have he1 : (s.hi + 1) % 4294967296 = s.hi + 1 := by omega
              have hput := put_any D1 v2 (s.hi + 1) most w.heap.size w2 hown2 HR2.out (fun y hy => by
                rcases (HM2.out y).1 hy with hy | ⟨rfl, _⟩
                · exact HD.out.2.1 y hy
                · exact hlo) (by omega) (by omega) (by omega)
              have HP := Lib.hid hput
              have HO := Lib.hid hown2
              have HN := Lib.hid nx2
              clear hput hown2 nx2
              go_wp2_with fail
              refine HP.out.mono ?_
              rintro e w3 ⟨v3, D2, rfl, hown3, hr3, hm3, hl3, hgr3⟩
              have nx3 := below_row HN.out HO.out hgr3 hsz2 (Nat.le_refl _)
              have HM3 := Lib.hid hm3
              have HR3 := Lib.hid hr3
              clear hm3 hr3 hgr3
              go_wp2
              refine ⟨⟨k + 1, D2, by go_num, by omega, hown3, ?_, by omega, nx3⟩, by simp only [intOf]; omega⟩
              rw [HST2.out, ← List.append_assoc]
              exact HD.out.puts hok hm.2 ⟨HR2.out, HM2.out⟩ ⟨HR3.out, HM3.out⟩
            · go_wp2
              refine ⟨⟨k + 1, D1, by go_num, by omega, hown2, ?_, by omega, nx2⟩, by simp only [intOf]; omega⟩
              rw [HST2.out, ← List.append_assoc]
              exact HD.out.puts1 hok hm.2 ⟨HR2.out, HM2.out⟩ (by omega)
          · go_wp2
            refine ⟨⟨k + 1, D, by go_num, by omega, hown.alloc _, ?_, by omega, hnx.alloc hsz _⟩, by simp only [intOf]; omega⟩
            rw [HST2.out, ← List.append_assoc]
            exact hD.skip hok
        · obtain rfl : k = x.L.length := by omega
          rw [List.take_length] at hD
          go_wp2
          exact ⟨⟨j + 1, D, by go_num, by omega, hown, by rw [HSTEP.out]; exact hD, by rw [HSTEP.out, List.length_append]; exact hDl, hnx⟩, by simp only [intOf]; omega⟩
    · obtain rfl : j = S.length := by omega
      rw [List.take_length] at hC hCl
      go_wp2
      go_ret
      exact ⟨_, C, rfl, hown, hC, hCl, hnx⟩

end Go.Proofs.YtmgeknghgngliaaGreatDoor

/-
  The walk of the document's made, and of its five callers.
-/
namespace Go.Proofs.YtmgeknghgngliaaGreatDoor
open Go Go.RowKit Go.Lib Go.Sort

set_option maxRecDepth 100000 in
set_option maxHeartbeats 4000000 in
theorem made_any (most how : Int) (L M : List SpanV) (vl vm : Value) (w : World) (hl : Rd w w.heap.size 2 vl L.length (scells L)) (hm : Rd w w.heap.size 2 vm M.length (scells M)) (hmost : 0 ≤ most ∧ most < 4294967296) (hlen : L.length ≤ 268435456) (hlen2 : M.length ≤ 268435456) :
    Calls Tryz.prog 109 #[.int .u32 most, vl, vm, .int .i64 how] w (SetRes (theSet (soP how most L M)) w) := by
  obtain ⟨i0, hi, hz0, hz1, hz2⟩ := info_parts Tryz.infoSpan
  obtain ⟨Al, cl, rfl, _⟩ := hl.form
  obtain ⟨Am, cm, rfl, _⟩ := hm.form
  have hA : allS [⟨.slice Al L.length cl, L⟩, ⟨.slice Am M.length cm, M⟩] = L ++ M := by simp [allS]
  have hsets : SetsAt (w.alloc (.cells #[.slice Al L.length cl, .slice Am M.length cm] 59)) (w.alloc (.cells #[.slice Al L.length cl, .slice Am M.length cm] 59)).heap.size (.slice (some ⟨w.heap.size, 0, none⟩) 2 2) [⟨.slice Al L.length cl, L⟩, ⟨.slice Am M.length cm, M⟩] := by
    refine ⟨Rd.of_blk (cs := #[.slice Al L.length cl, .slice Am M.length cm]) (blk1 w _) (by decide) rfl, fun x hx => ?_⟩
    simp at hx
    rcases hx with rfl | rfl
    · exact (hl.below (below1 w _)).mono (by simp)
    · exact (hm.below (below1 w _)).mono (by simp)
  have hcuts := cuts_any most [⟨.slice Al L.length cl, L⟩, ⟨.slice Am M.length cm, M⟩] _ _ hsets hmost (by rw [hA, List.length_append]; omega) (by simp)
  rw [hA] at hcuts
  have HC := Lib.hid hcuts
  have HL := Lib.hid hl
  have HM := Lib.hid hm
  clear hcuts hsets hl hm hA
  go_enter Tryz.func109, Tryz.ntmps109
  go_wp2_with fail
  refine HC.out.mono ?_
  rintro e w1 ⟨v1, C, rfl, hown1, hcut, hCl, hb1⟩
  have rd1 := Rd.of_own hown1
  obtain ⟨A1, c1, rfl, hc1⟩ := rd1.form
  have hb0 : Below w.heap.size w w1 := (below1 w _).trans (hb1.mono (by simp))
  have hsz1 := hb0.size
  rw [List.length_append] at hCl
  have HR := Lib.hid rd1
  have HB := Lib.hid hb0
  have HK := Lib.hid hcut
  clear rd1 hown1 hb1 hcut hb0 HC
  go_wp2_with fail
  go_loopw [9, 11] (fun v i wr => ∃ (j : Nat) (O : List SpanV), i = .int .i64 j ∧ j ≤ C.length ∧ O.length ≤ j ∧ MadeTo how most L M C j O ∧ wr.ownsRow w1.heap.size 27 2 v O.length (scells O) ∧ Below w1.heap.size w1 wr) (fun _ i _ => C.length - (intOf i).toNat)
  case atStart => exact ⟨0, [], rfl, by omega, by simp, MadeTo.zero HK.out, World.ownsRow_nil _ _ _ _, Below.refl _ _⟩
  case round =>
    obtain ⟨j, O, rfl, hj, hOl, hO, hown, hnx⟩ := hrel
    have hsz := hnx.size
    by_cases hlt : j < C.length
    · have hI : (j : Int) < (C.length : Int) := by omega
      obtain ⟨c, hc⟩ : ∃ c, C[j]? = some c := ⟨_, List.getElem?_eq_getElem hlt⟩
      obtain ⟨b, off, c', hv, _, hbB, hcell⟩ := (HR.out.below hnx).pos (by omega)
      injection hv with hv1 _ hv3
      subst hv1 hv3
      have f0 : wr.cell? ⟨b, off + j, none⟩ = some (.int .u32 c) := hcell j _ (encU_at hc)
      have hf1 : ∀ y, C[j + 1]? = some y → wr.cell? ⟨b, off + (j + 1), none⟩ = some (.int .u32 y) := fun y hy => hcell _ _ (encU_at hy)
      have hc0 := HK.out.2.1 c (List.mem_of_getElem? hc)
      have hbw : Below w.heap.size w wr := HB.out.trans (hnx.mono hsz1)
      have hso := so_any L M (.slice Al L.length cl) (.slice Am M.length cm) c how wr ((HL.out.below hbw).mono (by omega)) ((HM.out.below hbw).mono (by omega)) (by omega) (by omega)
      have HSO := Lib.hid hso
      have HCJ := Lib.hid hc
      have HF1 := Lib.hid hf1
      clear hso hc hf1 hcell
      have HO := Lib.hid hO
      clear hO
      go_wp2_with fail
      refine HSO.out.mono ?_
      rintro e w2 ⟨rfl, rfl⟩
      cases hs : soB how L M c with
      | false =>
        have HS := Lib.hid hs
        clear hs
        go_wp2
        exact ⟨⟨j + 1, O, by go_num, by omega, by omega, HO.out.skip hmost.1 HK.out HCJ.out HS.out, hown, hnx⟩, by simp only [intOf]; omega⟩
      | true =>
        have HS := Lib.hid hs
        clear hs
        have hend := HK.out.lt_end hmost.1 HCJ.out
        have hem : cutEnd most C (j + 1) ≤ most + 1 := by
          unfold cutEnd
          cases hn : C[j + 1]? with
          | none => exact Int.le_refl _
          | some y => have := HK.out.le hmost.1 (List.mem_of_getElem? hn); show y ≤ most + 1; omega
        go_upto_if 39 with fail
        go_cut [12] (fun s12 wx => wx = wr ∧ s12 = .int .u32 (cutEnd most C (j + 1) - 1))
        case first =>
          by_cases hl2 : j + 1 < C.length
          · obtain ⟨y, hy⟩ : ∃ y, C[j + 1]? = some y := ⟨_, List.getElem?_eq_getElem hl2⟩
            have f1 := HF1.out y hy
            have e1 : cutEnd most C (j + 1) = y := by unfold cutEnd; rw [hy]
            rw [e1] at hend hem
            have E1 := Lib.hid e1
            have hI3 : (j : Int) + 1 < (C.length : Int) := by omega
            have he : (y - 1) % 4294967296 = y - 1 := by omega
            clear hy e1
            go_wp2
            go_meet
            exact ⟨rfl, by rw [E1.out]⟩
          · have e1 : cutEnd most C (j + 1) = most + 1 := by unfold cutEnd; rw [List.getElem?_eq_none (by omega)]
            have E1 := Lib.hid e1
            have hI3 : ¬ (j : Int) + 1 < (C.length : Int) := by omega
            clear e1
            go_wp2
            go_meet
            exact ⟨rfl, by rw [E1.out]; congr 1; omega⟩
        case rest =>
          obtain ⟨rfl, rfl⟩ := hcut
          have HOWN := Lib.hid hown
          have HNX := Lib.hid hnx
          have hOh := HO.out.2.1
          have e0 : cutEnd most C j = c := by unfold cutEnd; rw [HCJ.out]
          rw [e0] at hOh
          clear e0
          have hE : ∃ E, E = cutEnd most C (j + 1) := ⟨_, rfl⟩
          obtain ⟨E, hE⟩ := hE
          rw [← hE] at hend hem
          have HE := Lib.hid hE
          rw [← hE]
          clear hE
          have F0 := cell_regrown f0
          rcases snoc_cases O with rfl | ⟨A, t, rfl⟩
          · obtain ⟨A3, c3, rfl, _⟩ := owns_form hown
            clear hown hnx hOh
            go_wp2
            refine wp_region_quiet_below (by kernel_rfl) (by kernel_rfl) ?_
            repeat (first | go_big_quiet_step (fail) | quiet_step (fail))
            refine wpQuiet_nil ?_
            intro _ hw'
            obtain ⟨⟨nq, osq⟩, hw''⟩ := hw'
            subst hw''
            have hq := below_regrown wc nq osq
            have own1 := owns_kept_none HOWN.out (only_of_below hq none)
            have nx1 := HNX.out.trans (hq.mono hsz)
            have sz1 := nx1.size
            have g0 := (hq.cell (p := ⟨b, off + j, none⟩) (by show b < _; omega)).trans f0
            clear F0 HOWN HNX f0
            generalize grow (redrawn wc nq) osq = W1 at *
            clear hq
            go_wp2_with (at_builtin; refine wpList_push rfl _ _ 59 rfl 27 i0 _ 2 8 Tryz.underlying59 hi hz0 hz1 hz2 rfl (by decide) (by decide) [.int .u32 c, .int .u32 (E - 1)] rfl rfl (by simp) own1 rfl (enc_one ⟨c, E - 1, by omega, by omega⟩) (by simp) (by omega) nx1 (Nat.le_refl _) ?_; intro v2 w2 hown2 hb2)
            refine ⟨⟨j + 1, [⟨c, E - 1, by omega, by omega⟩], by go_num, by omega, by simp, ?_, hown2, hb2⟩, by simp only [intOf]; omega⟩
            exact HO.out.new hmost.1 HK.out HCJ.out HS.out _ rfl (by rw [← HE.out]) (fun t ht => by simp at ht)
          · have hl1 : (A ++ [t]).length = A.length + 1 := by simp
            rw [hl1] at hown hOl
            have hthi := hOh t (List.mem_append_right _ (List.mem_singleton.2 rfl))
            have htb := t.hhi
            clear hOh
            obtain ⟨A3, c3, rfl, hA3⟩ := owns_form hown
            obtain ⟨g, rfl⟩ := hA3 (by omega)
            have e1 : wc.cell? ⟨g, A.length * 2 + 1, none⟩ = some (.int .u32 t.hi) := (hown.cellAt (A.length * 2 + 1) (by omega)).trans (scell (L := A ++ [t]) (k := A.length) (i := 1) (x := t) (by simp) rfl)
            have F1 := cell_regrown e1
            have hwp : (t.hi + 1) % 4294967296 = t.hi + 1 := by omega
            have hi1 : (0 : Int) ≤ (A.length : Int) := by omega
            have hi2 : (A.length : Int) < (A.length : Int) + 1 := by omega
            have HOWN : Hid (wc.ownsRow w1.heap.size 27 2 (.slice (some ⟨g, 0, none⟩) (A.length + 1) c3) (A.length + 1) (scells (A ++ [t]))) := hown
            clear hown hnx
            by_cases hme : t.hi + 1 = c
            · have hb1 : (t.hi + 1 == c) = true := by simp [hme]
              have hb2 : decide (0 < c) = true := by simp; omega
              have HME := Lib.hid hme
              clear hme
              go_wp2
              refine wp_region_quiet_below (by kernel_rfl) (by kernel_rfl) ?_
              repeat (first | go_big_quiet_step (fail) | quiet_step (fail))
              refine wpQuiet_nil ?_
              intro _ hw'
              obtain ⟨⟨nq, osq⟩, hw''⟩ := hw'
              subst hw''
              have hq := below_regrown wc nq osq
              have own1 := owns_kept_none HOWN.out (only_of_below hq none)
              have nx1 := HNX.out.trans (hq.mono hsz)
              have sz1 := nx1.size
              have g0 := (hq.cell (p := ⟨b, off + j, none⟩) (by show b < _; omega)).trans f0
              clear F0 HOWN HNX f0
              generalize grow (redrawn wc nq) osq = W1 at *
              clear hq
              have z1 : W1.cell? ⟨g, A.length * 2 + 1, none⟩ = some (.int .u32 t.hi) := (own1.cellAt (A.length * 2 + 1) (by omega)).trans (scell (L := A ++ [t]) (k := A.length) (i := 1) (x := t) (by simp) rfl)
              have z2 := own1.frozenAt (A.length * 2 + 1)
              have hgB := (own1.lt g rfl).1
              clear e1 F1 hwp hb1 hb2
              go_wp2
              have s1 := (own1.stored (A.length * 2 + 1) (.int .u32 (E - 1))).1
              have hEr : 0 ≤ E - 1 ∧ E - 1 < 4294967296 := by omega
              rw [show (scells (A ++ [t])).set (A.length * 2 + 1) (.int .u32 (E - 1)) = scells (A ++ [⟨t.lo, E - 1, t.hlo, hEr⟩]) from scells_set (A := A) (t := t) (y := ⟨t.lo, E - 1, t.hlo, hEr⟩) rfl] at s1
              refine ⟨⟨j + 1, A ++ [⟨t.lo, E - 1, t.hlo, hEr⟩], by go_num, by omega, by simp; omega, ?_, by rw [List.length_append]; exact s1, nx1.setCell (p := ⟨g, A.length * 2 + 1, none⟩) hgB _⟩, by simp only [intOf]; omega⟩
              exact HO.out.more hmost.1 HK.out HCJ.out HS.out _ rfl (by rw [← HE.out]) HME.out
            · have hb1 : (t.hi + 1 == c) = false := by simp [hme]
              have HME := Lib.hid hme
              clear hme
              go_wp2
              refine wp_region_quiet_below (by kernel_rfl) (by kernel_rfl) ?_
              repeat (first | go_big_quiet_step (fail) | quiet_step (fail))
              refine wpQuiet_nil ?_
              intro _ hw'
              obtain ⟨⟨nq, osq⟩, hw''⟩ := hw'
              subst hw''
              have hq := below_regrown wc nq osq
              have own1 := owns_kept_none HOWN.out (only_of_below hq none)
              have nx1 := HNX.out.trans (hq.mono hsz)
              have sz1 := nx1.size
              have g0 := (hq.cell (p := ⟨b, off + j, none⟩) (by show b < _; omega)).trans f0
              clear F0 HOWN HNX f0
              generalize grow (redrawn wc nq) osq = W1 at *
              clear hq
              clear e1 F1 hwp hb1
              go_wp2_with (at_builtin; refine wpList_push rfl _ _ 59 rfl 27 i0 _ 2 8 Tryz.underlying59 hi hz0 hz1 hz2 rfl (by decide) (by decide) [.int .u32 c, .int .u32 (E - 1)] rfl rfl (by simp) own1 rfl (enc_one ⟨c, E - 1, by omega, by omega⟩) (by omega) (by omega) nx1 (Nat.le_refl _) ?_; intro v2 w2 hown2 hb2)
              refine ⟨⟨j + 1, A ++ [t] ++ [⟨c, E - 1, by omega, by omega⟩], by go_num, by omega, by simp; omega, ?_, ?_, hb2⟩, by simp only [intOf]; omega⟩
              · refine HO.out.new hmost.1 HK.out HCJ.out HS.out _ rfl (by rw [← HE.out]) (fun u hu => ?_)
                have h1 := HO.out.1
                rcases List.mem_append.1 hu with hu | hu
                · have := (NF.snoc.1 h1).2.2 u hu
                  have := (NF.snoc.1 h1).2.1
                  omega
                · obtain rfl := List.mem_singleton.1 hu
                  exact HME.out
              · rw [scells_snoc (A ++ [t]), List.length_append, hl1]
                exact hown2
    · obtain rfl : j = C.length := by omega
      go_wp2
      go_ret
      unfold SetRes
      rw [← hO.last]
      exact ⟨_, rfl, owns_base hown hsz1, HB.out.trans (hnx.mono hsz1)⟩

end Go.Proofs.YtmgeknghgngliaaGreatDoor

/-
  The walk of spans.And.
-/
namespace Go.Proofs.YtmgeknghgngliaaGreatDoor
open Go Go.RowKit Go.Lib Go.Sort

theorem meet1_yes {s t : SpanV} (h : max s.lo t.lo ≤ min s.hi t.hi) : ∃ x : SpanV, meet1 s t = [x] ∧ x.lo = max s.lo t.lo ∧ x.hi = min s.hi t.hi := by
  unfold meet1
  rw [if_pos h]
  exact ⟨_, rfl, rfl, rfl⟩
theorem meet1_no {s t : SpanV} (h : ¬ max s.lo t.lo ≤ min s.hi t.hi) : meet1 s t = [] := by
  unfold meet1
  rw [if_neg h]

end Go.Proofs.YtmgeknghgngliaaGreatDoor

/-
  The walks of spans.Not and spans.Less.
-/
namespace Go.Proofs.YtmgeknghgngliaaGreatDoor
open Go Go.RowKit Go.Lib Go.Sort

theorem lessP (L M : List SpanV) : theSet (fun x => hasB L x && hasB (theSet (notP 4294967295 M)) x) = theSet (fun x => hasB L x && !hasB M x) := by
  congr 1
  funext x
  have h := (notAll_ok (formOf_ok M).1 (most := 4294967295) (by omega)).2 x
  rw [theSet_not (by omega), h, notP_form]
  unfold notP
  cases hx : hasB L x with
  | false => rfl
  | true =>
    obtain ⟨s, _, h1, h2⟩ := hasB_iff.1 hx
    have := s.hlo
    have := s.hhi
    have e1 : 0 ≤ x := by omega
    have e2 : x ≤ 4294967295 := by omega
    simp [e1, e2]
theorem not_len {most : Int} (hm : 0 ≤ most ∧ most < 4294967296) (L : List SpanV) : (theSet (notP most L)).length ≤ L.length + 1 := by
  rw [theSet_not hm]
  unfold notAll
  have h1 := notTo_len most (formOf L) (formOf L).length
  have h2 := formOf_len L
  have h3 : (lastOf (natAt (formOf L)) most).length ≤ 1 := by unfold lastOf; split <;> simp
  rw [List.length_append]; omega

end Go.Proofs.YtmgeknghgngliaaGreatDoor

/-
  The walks of the document's Form, Or, And, Less and Not, and of Concat and Or of the program.
-/
namespace Go.Proofs.YtmgeknghgngliaaGreatDoor
open Go Go.RowKit Go.Lib Go.Sort

theorem hasB_range {L : List SpanV} {x : Int} (h : hasB L x = true) : 0 ≤ x ∧ x ≤ 4294967295 := by
  obtain ⟨s, _, h1, h2⟩ := hasB_iff.1 h
  have := s.hlo
  have := s.hhi
  omega
theorem soP_or (L M : List SpanV) : soP 1 4294967295 L M = fun x => hasB L x || hasB M x := by
  funext x
  have e : soP 1 4294967295 L M x = (decide (0 ≤ x) && decide (x ≤ 4294967295) && (hasB L x || hasB M x)) := rfl
  rw [e]
  cases h : (hasB L x || hasB M x) with
  | false => simp
  | true =>
    rcases Bool.or_eq_true_iff.1 h with h | h
    · have := hasB_range h; simp [this]
    · have := hasB_range h; simp [this]
theorem soP_and (L M : List SpanV) : soP 2 4294967295 L M = fun x => hasB L x && hasB M x := by
  funext x
  have e : soP 2 4294967295 L M x = (decide (0 ≤ x) && decide (x ≤ 4294967295) && (hasB L x && hasB M x)) := rfl
  rw [e]
  cases h : hasB L x with
  | false => simp
  | true => have := hasB_range h; simp [this]
theorem soP_less (L M : List SpanV) : soP 3 4294967295 L M = fun x => hasB L x && !hasB M x := by
  funext x
  have e : soP 3 4294967295 L M x = (decide (0 ≤ x) && decide (x ≤ 4294967295) && (hasB L x && !hasB M x)) := rfl
  rw [e]
  cases h : hasB L x with
  | false => simp
  | true => have := hasB_range h; simp [this]
theorem soP_not (most : Int) (L : List SpanV) : soP 4 most L [] = notP most L := rfl
theorem soP_form (L : List SpanV) : theSet (soP 1 4294967295 L []) = formOf L := by
  rw [soP_or]
  unfold formOf
  congr 1
  funext x
  rw [hasB_nil, Bool.or_false]
theorem rd_nil (w : World) (B k : Nat) : Rd w B k (.slice none 0 0) 0 [] := ⟨none, 0, rfl, by omega, by simp, fun h => absurd h (by omega)⟩

set_option maxRecDepth 100000 in
set_option maxHeartbeats 1000000 in
theorem refForm_any (L : List SpanV) (vl : Value) (w : World) (hl : Rd w w.heap.size 2 vl L.length (scells L)) (hlen : L.length ≤ 268435456) :
    Calls Tryz.prog 80 #[vl] w (SetRes (formOf L) w) := by
  have hc := made_any 4294967295 1 L [] vl (.slice none 0 0) w hl (rd_nil w _ 2) (by omega) hlen (by simp)
  have HC := Lib.hid hc
  clear hc
  go_enter Tryz.func80, Tryz.ntmps80
  go_wp2_with fail
  refine HC.out.mono ?_
  rintro e w1 ⟨v1, rfl, hown1, hb1⟩
  go_wp2
  go_ret
  exact ⟨_, rfl, by rw [soP_form] at hown1; exact hown1, hb1⟩

end Go.Proofs.YtmgeknghgngliaaGreatDoor

/-
  Walks over the document's addresses: Read.
-/
namespace Go.Proofs.YtmgeknghgngliaaGreatDoor
open Go Go.RowKit Go.Sort

/-- What Read hands back. -/
def rdV (l : List UInt8) (m : Nat) : Int := match readB l m with | some n => n | none => -1
theorem rdV_none {l : List UInt8} {m : Nat} (h : readB l m = none) : rdV l m = -1 := by unfold rdV; rw [h]
theorem rdV_some {l : List UInt8} {m n : Nat} (h : readB l m = some n) : rdV l m = n := by unfold rdV; rw [h]
theorem dec_long : ∀ (k n : Nat), k + 1 < (Lib.decDigits n).length → 10 ^ (k + 1) ≤ n
  | 0, n, h => by
    rcases (show n < 10 ∨ 10 ≤ n by omega) with h1 | h1
    · rw [decDigits_small h1] at h; simp at h
    · simpa using h1
  | k + 1, n, h => by
    rcases (show n < 10 ∨ 10 ≤ n by omega) with h1 | h1
    · rw [decDigits_small h1] at h; simp at h
    · rw [decDigits_big (by omega), List.length_append] at h
      have := dec_long k (n / 10) (by simp at h; omega)
      rw [Nat.pow_succ]; omega
theorem readB_long {l : List UInt8} {m : Nat} (hm : m < 1000000000000) (h : 12 < l.length) : readB l m = none := by
  cases e : readB l m with
  | none => rfl
  | some n =>
    obtain ⟨h1, h2⟩ := readB_some.1 e
    have := dec_long 11 n (by rw [h1]; omega)
    omega
theorem readB_zero {l : List UInt8} {m : Nat} (h : 1 < l.length) (h0 : l.head? = some 48) : readB l m = none := by unfold readB; rw [if_pos (Or.inr (Or.inl ⟨h, h0⟩))]
theorem readB_nil (m : Nat) : readB [] m = none := by unfold readB; rw [if_pos (Or.inl rfl)]
theorem readB_bad {l : List UInt8} {m : Nat} {i : Nat} {c : UInt8} (h : l[i]? = some c) (hc : isDig c = false) : readB l m = none := by
  unfold readB
  rw [if_pos (Or.inr (Or.inr ?_))]
  cases e : l.all isDig with
  | false => rfl
  | true => have := List.all_eq_true.1 e c (List.mem_of_getElem? h); rw [hc] at this; cases this
theorem readB_good {l : List UInt8} {m : Nat} (h0 : l ≠ []) (hz : ¬ (1 < l.length ∧ l.head? = some 48)) (hall : l.all isDig = true) : readB l m = if valD 0 l ≤ m then some (valD 0 l) else none := by
  unfold readB
  rw [if_neg]
  rintro (h | h | h)
  · exact h0 h
  · exact hz h
  · rw [hall] at h; cases h
theorem valD_take {l : List UInt8} {i : Nat} {c : UInt8} (h : l[i]? = some c) : valD 0 (l.take (i + 1)) = 10 * valD 0 (l.take i) + (c.toNat - 48) := by
  rw [List.take_add_one, h, valD_append]
  rfl
theorem valD_lt : ∀ (k : Nat) (l : List UInt8), l.length ≤ k → l.all isDig = true → valD 0 l < 10 ^ k := by
  intro k
  induction k with
  | zero => intro l hl _; obtain rfl := List.length_eq_zero_iff.1 (Nat.le_zero.1 hl); decide
  | succ k ih =>
    intro l hl hall
    by_cases hne : l = []
    · subst hne; exact Nat.pow_pos (by decide)
    · obtain ⟨r, c, rfl⟩ : ∃ r c, l = r ++ [c] := ⟨l.dropLast, l.getLast hne, (List.dropLast_concat_getLast hne).symm⟩
      rw [valD_append]
      simp at hl hall
      have := ih r hl (by simpa using hall.1)
      have hc := (of_dig c hall.2).2
      simp only [valD, List.foldl_cons, List.foldl_nil] at this ⊢
      rw [Nat.pow_succ]; omega

set_option maxRecDepth 100000 in
set_option maxHeartbeats 2000000 in
theorem refRead_any (s : ByteArray) (m : Nat) (hm : m < 1000000) (w : World) :
    Calls Tryz.prog 46 #[.string s, .int .i64 m] w fun e w' => e = .returned (.int .i64 (rdV s.data.toList m)) ∧ w = w' := by
  have hs : s.size = s.data.toList.length := (Array.length_toList).symm
  have t9 := Tryz.underlying9
  have u9 := run_underlying t9
  have t5 := Tryz.underlying5
  by_cases h0 : s.data.toList = []
  · have hr := Lib.hid (rdV_none (by rw [h0]; exact readB_nil m) : rdV s.data.toList m = -1)
    have he : (s.toList == ([] : List UInt8)) = true := by rw [list_of, h0]; rfl
    go_enter Tryz.func46, Tryz.ntmps46
    go_wp2
    go_ret
    exact ⟨by rw [hr.out]; rfl, rfl⟩
  · have he : (s.toList == ([] : List UInt8)) = false := by rw [list_of]; simpa using h0
    by_cases h12 : 12 < s.size
    · have hr := Lib.hid (rdV_none (readB_long (m := m) (by omega) (by omega)) : rdV s.data.toList m = -1)
      have hI : (s.size : Int) > 12 := by omega
      clear h0 hs
      go_enter Tryz.func46, Tryz.ntmps46
      go_wp2
      go_ret
      exact ⟨by rw [hr.out]; rfl, rfl⟩
    · have hI : ¬ (s.size : Int) > 12 := by omega
      obtain ⟨c, r, hl⟩ : ∃ c r, s.data.toList = c :: r := by
        cases h : s.data.toList with
        | nil => exact absurd h h0
        | cons c r => exact ⟨c, r, rfl⟩
      have hc0 := Lib.hid (show s.data.toList[0]? = some c by rw [hl]; rfl)
      have hpos : 0 < s.size := by rw [hs, hl]; simp
      have hs0 : s[0]'hpos = c := by
        have h1 : s.data[0]? = some c := by rw [← Array.getElem?_toList, hl]; rfl
        exact Option.some.inj ((Array.getElem?_eq_getElem (xs := s.data) (i := 0) hpos).symm.trans h1)
      obtain ⟨v0, hv0⟩ : ∃ v : Int, ((s[0]'hpos).toNat : Int) = v := ⟨_, rfl⟩
      have hvc : v0 = c.toNat := by rw [← hv0, hs0]
      clear hs0
      by_cases hz : 1 < s.size ∧ c = 48
      · have hr := Lib.hid (rdV_none (readB_zero (m := m) (by omega) (by rw [hl, hz.2]; rfl)) : rdV s.data.toList m = -1)
        have hI2 : (s.size : Int) > 1 := by omega
        obtain rfl : v0 = 48 := by rw [hvc, hz.2]; rfl
        clear h0 hl hs hvc hz hc0
        go_enter Tryz.func46, Tryz.ntmps46
        go_wp2
        go_ret
        exact ⟨by rw [hr.out]; rfl, rfl⟩
      · have hz1 : ¬ (s.size : Int) > 1 ∨ ((s.size : Int) > 1 ∧ (v0 == 48) = false) := by
          by_cases h1 : 1 < s.size
          · right
            refine ⟨by omega, ?_⟩
            have h2 : c ≠ 48 := fun h => hz ⟨h1, h⟩
            simp
            intro h3
            apply h2
            apply UInt8.toNat_inj.1
            have : (48 : UInt8).toNat = 48 := rfl
            omega
          · left; omega
        have hG := Lib.hid (fun hall => readB_good (l := s.data.toList) (m := m) h0 (fun h => hz ⟨by omega, by rw [hl] at h; simpa using h.2⟩) hall)
        have HS := Lib.hid hs
        clear h0 hl hs hvc hz hc0
        have hq : ∀ (i : Nat) (h : i < s.size), Hid (s.data.toList[i]? = some (s[i]'h)) := fun i h => Lib.hid (by
          rw [Array.getElem?_toList]
          exact Array.getElem?_eq_getElem (xs := s.data) (i := i) h)
        have HQ := Lib.hid hq
        clear hq
        rcases hz1 with hz1 | ⟨hz1, hz2⟩
        all_goals
          go_enter Tryz.func46, Tryz.ntmps46
          go_wp2
          go_loop [5, 6] (fun n i => ∃ k a : Nat, i = .int .i64 k ∧ n = .int .i64 a ∧ k ≤ s.size ∧ Hid (a = valD 0 (s.data.toList.take k)) ∧ Hid ((s.data.toList.take k).all isDig = true)) (fun _ i => s.size - (intOf i).toNat)
          case atStart => exact ⟨0, 0, rfl, rfl, by omega, Lib.hid (by simp [valD]), Lib.hid (by simp)⟩
          case round =>
            obtain ⟨k, a, rfl, rfl, hk, ha, hall⟩ := hrel
            by_cases hlt : k < s.size
            · have hx := HQ.out k hlt
              have hI3 : (k : Int) < (s.size : Int) := by omega
              have hI4 : (0 : Int) ≤ k := by omega
              have ha12 : a < 1000000000000 := by
                rw [ha.out]
                exact valD_lt 12 _ (by rw [List.length_take]; omega) hall.out
              obtain ⟨v, hv⟩ : ∃ v : Int, ((s[k]'hlt).toNat : Int) = v := ⟨_, rfl⟩
              have hvn : 0 ≤ v := by omega
              have hxv := Lib.hid (show (s[k]'hlt).toNat = v.toNat by omega)
              rcases (show v < 48 ∨ (48 ≤ v ∧ 57 < v) ∨ (48 ≤ v ∧ v ≤ 57) by omega) with h1 | ⟨h1, h2⟩ | ⟨h1, h2⟩
              · have hr := Lib.hid (rdV_none (readB_bad (m := m) hx.out (by unfold isDig; rw [hxv.out]; simp; omega)) : rdV s.data.toList m = -1)
                have d1 : decide (v < 48) = true := by simp [h1]
                clear hx hxv ha12 hvn
                go_wp2
                go_ret
                exact ⟨by rw [hr.out]; rfl, rfl⟩
              · have hr := Lib.hid (rdV_none (readB_bad (m := m) hx.out (by unfold isDig; rw [hxv.out]; simp; omega)) : rdV s.data.toList m = -1)
                have d1 : decide (v < 48) = false := by simp; omega
                have d2 : decide (57 < v) = true := by simp [h2]
                clear hx hxv ha12 hvn
                go_wp2
                go_ret
                exact ⟨by rw [hr.out]; rfl, rfl⟩
              · have hdig : isDig (s[k]'hlt) = true := by unfold isDig; rw [hxv.out]; simp; omega
                have ha2 := Lib.hid (show 10 * a + (v.toNat - 48) = valD 0 (s.data.toList.take (k + 1)) by rw [valD_take hx.out, hxv.out, ← ha.out])
                have hall2 := Lib.hid (show (s.data.toList.take (k + 1)).all isDig = true by rw [List.take_add_one, hx.out, List.all_append, hall.out]; simp [hdig])
                have d1 : decide (v < 48) = false := by simp; omega
                have d2 : decide (57 < v) = false := by simp; omega
                have w1 : wrap64 (10 * (a : Int)) = 10 * (a : Int) := by unfold wrap64; omega
                have w2 : (v - 48) % 256 = v - 48 := by omega
                have w3 : wrap64 (10 * (a : Int) + (v - 48)) = 10 * (a : Int) + (v - 48) := by unfold wrap64; omega
                have hpos2 := Lib.hid (show (10 * (a : Int) + (v - 48)) = ((10 * a + (v.toNat - 48) : Nat) : Int) by omega)
                clear hx hxv hdig ha hall hvn
                go_wp2
                clear w1 w2 w3 d1 d2
                exact ⟨⟨k + 1, 10 * a + (v.toNat - 48), by go_num, vint hpos2.out, by omega, ha2, hall2⟩, by simp only [intOf]; omega⟩
            · obtain rfl : k = s.size := by omega
              have hall3 : s.data.toList.all isDig = true := by have h := hall.out; rw [HS.out, List.take_length] at h; exact h
              have ha3 : a = valD 0 s.data.toList := by have h := ha.out; rw [HS.out, List.take_length] at h; exact h
              have hg := hG.out hall3
              rw [← ha3] at hg
              by_cases hm2 : a ≤ m
              · have hr := Lib.hid (rdV_some (by rw [hg, if_pos hm2]) : rdV s.data.toList m = a)
                have d1 : ¬ (a : Int) > (m : Int) := by omega
                clear hg ha3 hall3 ha hall
                go_wp2
                go_ret
                exact ⟨by rw [hr.out]; rfl, rfl⟩
              · have hr := Lib.hid (rdV_none (by rw [hg, if_neg hm2]) : rdV s.data.toList m = -1)
                have d1 : (a : Int) > (m : Int) := by omega
                clear hg ha3 hall3 ha hall
                go_wp2
                go_ret
                exact ⟨by rw [hr.out]; rfl, rfl⟩
end Go.Proofs.YtmgeknghgngliaaGreatDoor
