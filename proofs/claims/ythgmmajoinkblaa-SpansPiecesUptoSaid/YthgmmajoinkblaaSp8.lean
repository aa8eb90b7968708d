/-
  The walk of the document's cuts.
-/
import Derived.Test.YthgmmajoinkblaaSp6
import Derived.Test.YthgmmajoinkblaaSp7
namespace Go.Proofs.Ythgmmajoinkblaa
open Go Go.RowKit Go.Lib Go.Sort

/-- Sets in memory: a slice of slices of spans, all below B. -/
structure SetV where
  v : Value
  L : List SpanV
instance : Inhabited SetV := ⟨⟨.slice none 0 0, []⟩⟩
def svals (S : List SetV) : List Value := S.map (·.v)
def SetsAt (w : World) (B : Nat) (v : Value) (S : List SetV) : Prop :=
  Rd w B 1 v S.length (svals S) ∧ ∀ x ∈ S, Rd w B 2 x.v x.L.length (scells x.L)
theorem SetsAt.below {w w' : World} {B : Nat} {v : Value} {S : List SetV} (h : SetsAt w B v S) (hb : Below B w w') : SetsAt w' B v S := ⟨h.1.below hb, fun x hx => (h.2 x hx).below hb⟩
theorem SetsAt.mono {w : World} {B B' : Nat} {v : Value} {S : List SetV} (h : SetsAt w B v S) (hb : B ≤ B') : SetsAt w B' v S := ⟨h.1.mono hb, fun x hx => (h.2 x hx).mono hb⟩
def allS (S : List SetV) : List SpanV := S.flatMap (·.L)
theorem allS_succ {S : List SetV} {i : Nat} {x : SetV} (h : S[i]? = some x) : allS (S.take (i + 1)) = allS (S.take i) ++ x.L := by
  unfold allS
  rw [List.take_add_one, h, List.flatMap_append]
  simp
def CutsRes (most : Int) (S : List SpanV) (w : World) (e : Ending) (w' : World) : Prop :=
  ∃ v C, e = .returned v ∧ w'.ownsRow w.heap.size 23 1 v C.length (encU C) ∧ CutsOf most S C ∧ C.length ≤ 2 * S.length + 1 ∧ Below w.heap.size w w'
theorem CutsOf.zero (most : Int) : CutsOf most [] [0] := ⟨List.pairwise_singleton _ _, fun y hy => by simp at hy; omega, fun y => by simp⟩
theorem take_snoc {L : List SpanV} {k : Nat} {s : SpanV} (h : L[k]? = some s) : L.take (k + 1) = L.take k ++ [s] := by rw [List.take_add_one, h]; rfl
theorem CutsOf.skip {most : Int} {S : List SpanV} {C : List Int} (h : CutsOf most S C) {s : SpanV} (hs : ¬ s.lo ≤ s.hi) : CutsOf most (S ++ [s]) C := by
  refine ⟨h.1, h.2.1, fun y => (h.2.2 y).trans ⟨fun hh => hh.imp id (fun ⟨t, ht, hm⟩ => ⟨t, List.mem_append_left _ ht, hm⟩), fun hh => hh.imp id (fun ⟨t, ht, hm⟩ => ?_)⟩⟩
  rcases List.mem_append.1 ht with ht | ht
  · exact ⟨t, ht, hm⟩
  · obtain rfl := List.mem_singleton.1 ht
    exact absurd hm.1 hs
/-- Behind the two puts of a span. -/
theorem CutsOf.puts {most : Int} {S : List SpanV} {C C1 C2 : List Int} (h : CutsOf most S C) {s : SpanV} (hs : s.lo ≤ s.hi) (hm : most < 4294967296)
    (h1 : Rising C1 ∧ ∀ y, y ∈ C1 ↔ y ∈ C ∨ (y = s.lo ∧ s.lo ≤ most)) (h2 : Rising C2 ∧ ∀ y, y ∈ C2 ↔ y ∈ C1 ∨ (y = s.hi + 1 ∧ s.hi + 1 ≤ most)) : CutsOf most (S ++ [s]) C2 := by
  have hlo := s.hlo
  have hhi := s.hhi
  refine ⟨h2.1, fun y hy => ?_, fun y => ?_⟩
  · rcases (h2.2 y).1 hy with hy | ⟨rfl, _⟩
    · rcases (h1.2 y).1 hy with hy | ⟨rfl, _⟩
      · exact h.2.1 y hy
      · omega
    · omega
  · rw [h2.2, h1.2, h.2.2]
    constructor
    · rintro (((rfl | ⟨t, ht, hk⟩) | ⟨rfl, hk⟩) | ⟨rfl, hk⟩)
      · exact .inl rfl
      · exact .inr ⟨t, List.mem_append_left _ ht, hk⟩
      · exact .inr ⟨s, List.mem_append_right _ (List.mem_singleton.2 rfl), hs, .inl rfl, hk⟩
      · exact .inr ⟨s, List.mem_append_right _ (List.mem_singleton.2 rfl), hs, .inr rfl, hk⟩
    · rintro (rfl | ⟨t, ht, hk⟩)
      · exact .inl (.inl (.inl rfl))
      · rcases List.mem_append.1 ht with ht | ht
        · exact .inl (.inl (.inr ⟨t, ht, hk⟩))
        · obtain rfl := List.mem_singleton.1 ht
          rcases hk.2.1 with rfl | rfl
          · exact .inl (.inr ⟨rfl, hk.2.2⟩)
          · exact .inr ⟨rfl, hk.2.2⟩
theorem CutsOf.puts1 {most : Int} {S : List SpanV} {C C1 : List Int} (h : CutsOf most S C) {s : SpanV} (hs : s.lo ≤ s.hi) (hm : most < 4294967296)
    (h1 : Rising C1 ∧ ∀ y, y ∈ C1 ↔ y ∈ C ∨ (y = s.lo ∧ s.lo ≤ most)) (hn : ¬ s.hi < most) : CutsOf most (S ++ [s]) C1 :=
  h.puts hs hm h1 ⟨h1.1, fun y => ⟨.inl, fun hh => hh.elim id (fun hh => by omega)⟩⟩

set_option maxRecDepth 100000 in
set_option maxHeartbeats 4000000 in
theorem cuts_any (most : Int) (S : List SetV) (vs : Value) (w : World) (hS : SetsAt w w.heap.size vs S) (hm : 0 ≤ most ∧ most < 4294967296) (hlen : (allS S).length ≤ 1073741824) (hlen2 : S.length ≤ 1099511627776) :
    Calls Try.prog 40 #[.int .u32 most, vs] w (CutsRes most (allS S) w) := by
  obtain ⟨A0, c0, rfl, hc0⟩ := hS.1.form
  have HS := Lib.hid hS
  clear hS
  go_enter Try.func40, Try.ntmps40
  go_wp2
  go_loopw [5, 6] (fun v i wr => ∃ (j : Nat) (C : List Int), i = .int .i64 j ∧ j ≤ S.length ∧ wr.ownsRow w.heap.size 23 1 v C.length (encU C) ∧ CutsOf most (allS (S.take j)) C ∧ C.length ≤ 2 * (allS (S.take j)).length + 1 ∧ Below w.heap.size w wr) (fun _ i _ => S.length - (intOf i).toNat)
  case atStart => exact ⟨0, [0], rfl, by omega, World.ownsRow_lit (base := w.heap.size) (size := 1) w #[.int .u32 0] 1 (Nat.le_refl _) (by decide) rfl, CutsOf.zero most, by simp, below1 w _⟩
  case round =>
    obtain ⟨j, C, rfl, hj, hown, hC, hCl, hnx⟩ := hrel
    have hsz := hnx.size
    by_cases hlt : j < S.length
    · have hI : (j : Int) < (S.length : Int) := by omega
      obtain ⟨x, hx⟩ : ∃ x, S[j]? = some x := ⟨_, List.getElem?_eq_getElem hlt⟩
      have hxr := HS.out.2 x (List.mem_of_getElem? hx)
      obtain ⟨Ax, cx, hxv, hcx⟩ := hxr.form
      have HX := Lib.hid hx
      have HXR := Lib.hid hxr
      have HXV := Lib.hid hxv
      have HSTEP := Lib.hid (allS_succ hx)
      have hle : (allS (S.take (j + 1))).length ≤ (allS S).length := by
        have e : allS S = allS (S.take (j + 1)) ++ allS (S.drop (j + 1)) := by unfold allS; rw [← List.flatMap_append, List.take_append_drop]
        rw [e, List.length_append]; omega
      rw [HSTEP.out, List.length_append] at hle
      have hv0 : ∀ W, Below w.heap.size w W → ∃ b off, A0 = some ⟨b, off, none⟩ ∧ W.cell? ⟨b, off + j, none⟩ = some (.slice Ax x.L.length cx) := by
        intro W hW
        obtain ⟨b, off, c', hv, _, _, hcell⟩ := (HS.out.1.below hW).pos (by omega)
        injection hv with hv1 _ _
        exact ⟨b, off, hv1, hcell j _ (by simp [svals, HX.out, HXV.out])⟩
      obtain ⟨b, off, rfl, _⟩ := hv0 w (Below.refl _ _)
      have HV0 := Lib.hid hv0
      clear hv0 hx hxr hxv
      generalize allS (S.take j) = T at *
      go_wp2
      go_loopw [5, 7] (fun v i wx => ∃ (k : Nat) (D : List Int), i = .int .i64 k ∧ k ≤ x.L.length ∧ wx.ownsRow w.heap.size 23 1 v D.length (encU D) ∧ CutsOf most (T ++ x.L.take k) D ∧ D.length ≤ 2 * (T.length + k) + 1 ∧ Below w.heap.size w wx) (fun _ i _ => x.L.length - (intOf i).toNat)
      case atStart => exact ⟨0, C, rfl, by omega, hown, by simpa using hC, by omega, hnx⟩
      case round =>
        clear hown hC hCl hnx hsz
        obtain ⟨k, D, rfl, hk, hown, hD, hDl, hnx⟩ := hrel
        have hsz := hnx.size
        obtain ⟨b', off', hv, g0⟩ := HV0.out _ hnx
        injection hv with hv
        injection hv with hv1 hv2
        subst hv1 hv2
        by_cases hlt2 : k < x.L.length
        · have hI2 : (k : Int) < (x.L.length : Int) := by omega
          obtain ⟨s, hs⟩ : ∃ s, x.L[k]? = some s := ⟨_, List.getElem?_eq_getElem hlt2⟩
          obtain ⟨b2, o2, c', hv, _, hbB, hcell⟩ := (HXR.out.below hnx).posAt (by omega)
          rw [HXV.out] at hv
          injection hv with hv1 _ hv3
          subst hv1 hv3
          have f0 : wr.cell? ⟨b2, o2 + k * 2, none⟩ = some (.int .u32 s.lo) := hcell k 0 _ (scell hs rfl)
          have f1 : wr.cell? ⟨b2, o2 + k * 2 + 1, none⟩ = some (.int .u32 s.hi) := hcell k 1 _ (scell hs rfl)
          have HST2 := Lib.hid (take_snoc hs)
          have hlo := s.hlo
          have hhi := s.hhi
          clear hcell hs
          generalize x.L.take k = T2 at *
          by_cases hok : s.lo ≤ s.hi
          · have hKB := Lib.hid (blk1 wr (.cells #[.int .u32 s.lo, .int .u32 s.hi] 44))
            have hoff : ∀ g, u5.ownBlock = some g → g < wr.heap.size := fun g hg => (hown.lt g hg).2
            have hDl2 : D.length ≤ 1099511627776 := by omega
            have hput := put_any D u5 s.lo most w.heap.size (wr.alloc (.cells #[.int .u32 s.lo, .int .u32 s.hi] 44)) (hown.alloc _) hD.1 hD.2.1 hlo (by simp; omega) hDl2
            have HP := Lib.hid hput
            have HO := Lib.hid hown
            have HN := Lib.hid hnx
            have HD := Lib.hid hD
            have HOFF := Lib.hid hoff
            clear hput hown hnx hD hoff
            go_wp2_with fail
            refine HP.out.mono ?_
            rintro e w2 ⟨v2, D1, rfl, hown2, hr2, hm2, hl2, hgr2⟩
            have kb2 : w2.heap[wr.heap.size]? = some _ := (hgr2.block wr.heap.size (by simp) (fun hh => by have := HOFF.out _ hh.symm; omega)).trans hKB.out
            obtain ⟨y0, y1, _, _⟩ := two_cells kb2
            have nx2 := below_row (HN.out.alloc hsz (.cells #[.int .u32 s.lo, .int .u32 s.hi] 44)) (HO.out.alloc _) hgr2 (by simp; omega) (Nat.le_refl _)
            have hsz2 := nx2.size
            have HM2 := Lib.hid hm2
            have HR2 := Lib.hid hr2
            clear kb2 hgr2 HO HN HP f0 f1 hm2 hr2
            by_cases hhm : s.hi < most
            · have he1 : (s.hi + 1) % 4294967296 = s.hi + 1 := by omega
              have hput := put_any D1 v2 (s.hi + 1) most w.heap.size w2 hown2 HR2.out (fun y hy => by
                rcases (HM2.out y).1 hy with hy | ⟨rfl, _⟩
                · exact HD.out.2.1 y hy
                · exact hlo) (by omega) (by omega) (by omega)
              have HP := Lib.hid hput
              have HO := Lib.hid hown2
              have HN := Lib.hid nx2
              clear hput hown2 nx2
              go_wp2_with fail
              refine HP.out.mono ?_
              rintro e w3 ⟨v3, D2, rfl, hown3, hr3, hm3, hl3, hgr3⟩
              have nx3 := below_row HN.out HO.out hgr3 hsz2 (Nat.le_refl _)
              have HM3 := Lib.hid hm3
              have HR3 := Lib.hid hr3
              clear hm3 hr3 hgr3
              go_wp2
              refine ⟨⟨k + 1, D2, by go_num, by omega, hown3, ?_, by omega, nx3⟩, by simp only [intOf]; omega⟩
              rw [HST2.out, ← List.append_assoc]
              exact HD.out.puts hok hm.2 ⟨HR2.out, HM2.out⟩ ⟨HR3.out, HM3.out⟩
            · go_wp2
              refine ⟨⟨k + 1, D1, by go_num, by omega, hown2, ?_, by omega, nx2⟩, by simp only [intOf]; omega⟩
              rw [HST2.out, ← List.append_assoc]
              exact HD.out.puts1 hok hm.2 ⟨HR2.out, HM2.out⟩ (by omega)
          · go_wp2
            refine ⟨⟨k + 1, D, by go_num, by omega, hown.alloc _, ?_, by omega, hnx.alloc hsz _⟩, by simp only [intOf]; omega⟩
            rw [HST2.out, ← List.append_assoc]
            exact hD.skip hok
        · obtain rfl : k = x.L.length := by omega
          rw [List.take_length] at hD
          go_wp2
          exact ⟨⟨j + 1, D, by go_num, by omega, hown, by rw [HSTEP.out]; exact hD, by rw [HSTEP.out, List.length_append]; exact hDl, hnx⟩, by simp only [intOf]; omega⟩
    · obtain rfl : j = S.length := by omega
      rw [List.take_length] at hC hCl
      go_wp2
      go_ret
      exact ⟨_, C, rfl, hown, hC, hCl, hnx⟩

end Go.Proofs.Ythgmmajoinkblaa
