/-
  Joined texts: SpMath6, PcR, Pc2, SpMath7, SpNm, Ad2, Math, A1, Bits, Addr.
-/
import Derived.Test.YthgmmajoinkblaaDoorMSpansNames7
import Derived.Test.YthgmmajoinkblaaDoorMSpansNames1
import Derived.Below
import Derived.Test.YthgmmajoinkblaaDoorProg
import Derived.WalkKit
import Derived.WalkSpells
import Derived.WalkLawsBesides
import Derived.Lib.Hide
import Derived.Test.YthgmmajoinkblaaDoorShelf
/-
  The pieces one by one: where each begins and ends, what is alike in it. No program in sight.
-/
namespace Go.Proofs.YthgmmajoinkblaaDoor

theorem pcs_cons (most a x : Int) (r : List Int) : pcs most a (x :: r) = spanAt a (x - 1) :: pcs most x r := rfl
/-- Where the i-th piece begins, and where the next begins. -/
def pbeg (a : Int) (C : List Int) (i : Nat) : Int := (a :: C).getD i 0
def pend (most : Int) (C : List Int) (i : Nat) : Int := (C ++ [most + 1]).getD i 0 - 1
theorem pcs_get (most : Int) : ∀ (C : List Int) (a : Int) (i : Nat), i < C.length + 1 → (pcs most a C)[i]? = some (spanAt (pbeg a C i) (pend most C i))
  | [], a, i, h => by
    obtain rfl : i = 0 := by simpa using h
    show some (spanAt a most) = some (spanAt a (most + 1 - 1))
    rw [show most + 1 - 1 = most by omega]
  | x :: r, a, 0, _ => rfl
  | x :: r, a, i + 1, h => by
    rw [pcs_cons, List.getElem?_cons_succ, pcs_get most r x i (by simpa using h)]
    rfl
theorem pbeg_succ (a : Int) (C : List Int) {i : Nat} (most : Int) (h : i < C.length) : pbeg a C (i + 1) = pend most C i + 1 := by
  unfold pbeg pend
  simp only [List.getD_eq_getElem?_getD, List.getElem?_cons_succ]
  rw [List.getElem?_append_left h]
  omega
theorem pend_last (most : Int) (C : List Int) : pend most C C.length = most := by
  unfold pend
  simp only [List.getD_eq_getElem?_getD]
  rw [List.getElem?_append_right (Nat.le_refl _), Nat.sub_self]
  show most + 1 - 1 = most
  omega
theorem pbeg_mem (a : Int) {C : List Int} {i : Nat} (h : i < C.length) : pbeg a C (i + 1) ∈ C := by
  unfold pbeg
  simp only [List.getD_eq_getElem?_getD, List.getElem?_cons_succ, List.getElem?_eq_getElem h]
  exact List.getElem_mem h
theorem StartsOf.bounds {most : Int} (hm : 0 ≤ most) {T : List (List SpanV)} {C : List Int} (h : StartsOf most T C) {i : Nat} (hi : i < C.length + 1) :
    0 ≤ pbeg 0 C i ∧ pbeg 0 C i ≤ pend most C i ∧ pend most C i ≤ most ∧ (∀ y ∈ C, ¬ (pbeg 0 C i < y ∧ y ≤ pend most C i)) := by
  have hb : ∀ j, j < C.length → 0 < pbeg 0 C (j + 1) ∧ pbeg 0 C (j + 1) ≤ most := fun j hj => by
    have := (h.2 _).1 (pbeg_mem 0 hj)
    exact ⟨this.1, this.2.1⟩
  have h0 : 0 ≤ pbeg 0 C i := by
    cases i with
    | zero => exact Int.le_refl _
    | succ j => have := hb j (by omega); omega
  have hget : ∀ j (hj : j < C.length), pbeg 0 C (j + 1) = C[j] := fun j hj => by
    unfold pbeg
    simp only [List.getD_eq_getElem?_getD, List.getElem?_cons_succ, List.getElem?_eq_getElem hj]
    rfl
  rcases Nat.lt_or_ge i C.length with hlt | hge
  · have e := pbeg_succ 0 C most hlt
    have hn := hget i hlt
    have hb1 := hb i hlt
    have hlo : pbeg 0 C i < C[i] := by
      cases i with
      | zero => show (0 : Int) < _; rw [← hn]; exact hb1.1
      | succ j =>
        rw [hget j (by omega)]
        exact List.pairwise_iff_getElem.1 h.1 j (j + 1) (by omega) hlt (by omega)
    refine ⟨h0, by omega, by omega, fun y hy hh => ?_⟩
    obtain ⟨k, hk, rfl⟩ := List.getElem_of_mem hy
    have hki : k < i := by
      rcases Nat.lt_or_ge k i with hk2 | hk2
      · exact hk2
      · rcases Nat.eq_or_lt_of_le hk2 with rfl | hk3
        · omega
        · have := List.pairwise_iff_getElem.1 h.1 i k hlt hk hk3; omega
    cases i with
    | zero => omega
    | succ j =>
      rw [hget j (by omega)] at hh
      rcases Nat.eq_or_lt_of_le (show k ≤ j by omega) with rfl | hkj
      · omega
      · have := List.pairwise_iff_getElem.1 h.1 k j hk (by omega) hkj; omega
  · obtain rfl : i = C.length := by omega
    rw [pend_last]
    refine ⟨h0, ?_, Int.le_refl _, fun y hy hh => ?_⟩
    · cases hC : C.length with
      | zero => rw [show pbeg 0 C 0 = 0 from rfl]; exact hm
      | succ j => have := hb j (by omega); omega
    · obtain ⟨k, hk, rfl⟩ := List.getElem_of_mem hy
      cases hC : C.length with
      | zero => omega
      | succ j =>
        rw [hC, hget j (by omega)] at hh
        rcases Nat.eq_or_lt_of_le (show k ≤ j by omega) with rfl | hkj
        · omega
        · have := List.pairwise_iff_getElem.1 h.1 k j hk (by omega) hkj; omega
theorem same_upto {most : Int} {T : List (List SpanV)} {C : List Int} (h : StartsOf most T C) {L : List SpanV} (hL : L ∈ T) {l : Int} (hl : 0 ≤ l) :
    ∀ n : Nat, l + n ≤ most → (∀ y ∈ C, ¬ (l < y ∧ y ≤ l + n)) → hasB L (l + n) = hasB L l
  | 0, _, _ => by rw [show l + ((0 : Nat) : Int) = l by omega]
  | n + 1, hm, hC => by
    rw [← same_upto h hL hl n (by omega) (fun y hy hh => hC y hy (by omega))]
    by_cases he : hasB L (l + ((n + 1 : Nat) : Int)) = hasB L (l + n)
    · exact he
    · exfalso
      refine hC _ ((h.2 _).2 ⟨?_, hm, ?_⟩) ⟨?_, Int.le_refl _⟩
      · omega
      · refine List.any_eq_true.2 ⟨L, hL, ?_⟩
        rw [show l + ((n + 1 : Nat) : Int) - 1 = l + n by omega]
        simpa [bne] using he
      · omega
/-- Of one piece all numbers are in the same sets. -/
theorem StartsOf.alike {most : Int} (hm : 0 ≤ most) {T : List (List SpanV)} {C : List Int} (h : StartsOf most T C) {i : Nat} (hi : i < C.length + 1) {L : List SpanV} (hL : L ∈ T) {x : Int} (h1 : pbeg 0 C i ≤ x) (h2 : x ≤ pend most C i) :
    hasB L x = hasB L (pbeg 0 C i) := by
  obtain ⟨b0, b1, b2, b3⟩ := h.bounds hm hi
  obtain ⟨n, hn⟩ : ∃ n : Nat, x = pbeg 0 C i + n := ⟨(x - pbeg 0 C i).toNat, by omega⟩
  subst hn
  exact same_upto h hL b0 n (by omega) (fun y hy hh => b3 y hy (by omega))
/-- Where a piece begins that is not the first, some set turns. -/
theorem StartsOf.turned {most : Int} {T : List (List SpanV)} {C : List Int} (h : StartsOf most T C) {i : Nat} (hi : i < C.length) : turnB T (pbeg 0 C (i + 1)) = true :=
  ((h.2 _).1 (pbeg_mem 0 hi)).2.2
/-- The numbers of the pieces are those up to the greatest. -/
theorem StartsOf.count {most : Int} {C : List Int} : ∀ k, k ≤ C.length → ((List.range (k + 1)).map fun i => pend most C i - pbeg 0 C i + 1).sum = pend most C k + 1
  | 0, _ => by
    show pend most C 0 - pbeg 0 C 0 + 1 + 0 = _
    rw [show pbeg 0 C 0 = 0 from rfl]
    omega
  | k + 1, h => by
    rw [List.range_succ, List.map_append, List.sum_append, StartsOf.count k (by omega)]
    have := pbeg_succ 0 C most (show k < C.length by omega)
    show _ + (pend most C (k + 1) - pbeg 0 C (k + 1) + 1 + 0) = _
    omega
end Go.Proofs.YthgmmajoinkblaaDoor

/-
  What Pieces hands back: the pieces between the starts.
-/
namespace Go.Proofs.YthgmmajoinkblaaDoor
open Go Go.RowKit Go.Lib Go.Sort

/-- The sets' lists. -/
def setsL (S : List SetV) : List (List SpanV) := S.map (·.L)
theorem pcs_zero {most : Int} (hm : 0 ≤ most ∧ most < 4294967296) : scells (pcs most 0 []) = [.int .u32 0, .int .u32 most] := by
  show [Value.int .u32 (0 % 4294967296), .int .u32 (most % 4294967296)] = _
  rw [Int.emod_eq_of_lt hm.1 hm.2]
  rfl
theorem pcs_step {most : Int} {C : List Int} {k : Nat} {x : Int} (hx : C[k]? = some x) (h0 : 0 < x) (h1 : x ≤ most) (hm : most < 4294967296) :
    ∃ (A : List SpanV) (t y : SpanV), A.length = k ∧ pcs most 0 (C.take k) = A ++ [t] ∧ y.lo = t.lo ∧ y.hi = x - 1 ∧ pcs most 0 (C.take (k + 1)) = A ++ [y] ++ [⟨x, most, by omega, by omega⟩] := by
  have hk : k < C.length := (List.getElem?_eq_some_iff.1 hx).1
  refine ⟨pin 0 (C.take k), spanAt (plast 0 (C.take k)) most, spanAt (plast 0 (C.take k)) (x - 1), ?_, rfl, rfl, ?_, ?_⟩
  · rw [pin_len, List.length_take]; omega
  · show (x - 1) % 4294967296 = x - 1
    omega
  · rw [List.take_add_one, hx, Option.toList_some, pcs_snoc]
    congr 2
    unfold spanAt
    congr 1 <;> omega
/-- What Pieces hands back. -/
def PiecesRes (most : Int) (T : List (List SpanV)) (w : World) (e : Ending) (w' : World) : Prop :=
  ∃ (v : Value) (k : Int) (C : List Int), e = .returned (.tuple #[v, .int .i64 k]) ∧ StartsOf most T C ∧
    (C.length < 65536 ∧ k = 0 ∧ w'.ownsRow w.heap.size 24 2 v (pcs most 0 C).length (scells (pcs most 0 C)) ∨ 65536 ≤ C.length ∧ k = 1 ∧ v = .slice none 0 0) ∧ Below w.heap.size w w'
/-- The pieces that the document's cuts make. -/
def dout (most : Int) (T : List (List SpanV)) : List Int → List SpanV
  | [] => []
  | a :: q => pcs most a (q.filter (turnB T))
theorem dout_skip {most : Int} {T : List (List SpanV)} {r : List Int} {m : Nat} {c : Int} (hc : r[m]? = some c) (ht : turnB T c = false) : dout most T ((0 :: r).take (m + 1 + 1)) = dout most T ((0 :: r).take (m + 1)) := by
  show pcs most 0 ((r.take (m + 1)).filter (turnB T)) = pcs most 0 ((r.take m).filter (turnB T))
  rw [List.take_add_one, hc, Option.toList_some, List.filter_append]
  simp [ht]
theorem dout_step {most : Int} {T : List (List SpanV)} {r : List Int} {m : Nat} {c : Int} (hc : r[m]? = some c) (ht : turnB T c = true) (h0 : 0 < c) (h1 : c ≤ most) (hm : most < 4294967296) :
    ∃ (A : List SpanV) (t y : SpanV), dout most T ((0 :: r).take (m + 1)) = A ++ [t] ∧ A.length ≤ m ∧ y.lo = t.lo ∧ y.hi = c - 1 ∧ dout most T ((0 :: r).take (m + 1 + 1)) = A ++ [y] ++ [⟨c, most, by omega, by omega⟩] := by
  refine ⟨pin 0 ((r.take m).filter (turnB T)), spanAt (plast 0 ((r.take m).filter (turnB T))) most, spanAt (plast 0 ((r.take m).filter (turnB T))) (c - 1), rfl, ?_, rfl, ?_, ?_⟩
  · rw [pin_len]
    have := List.length_filter_le (turnB T) (r.take m)
    rw [List.length_take] at this
    omega
  · show (c - 1) % 4294967296 = c - 1
    omega
  · show pcs most 0 ((r.take (m + 1)).filter (turnB T)) = _
    rw [List.take_add_one, hc, Option.toList_some, List.filter_append]
    have e : [c].filter (turnB T) = [c] := by simp [ht]
    rw [e, pcs_snoc]
    congr 2
    unfold spanAt
    congr 1 <;> omega
theorem allS_flat (S : List SetV) : allS S = (setsL S).flatten := by simp [allS, setsL, List.flatMap_def]
end Go.Proofs.YthgmmajoinkblaaDoor

/-
  The walk of spans.Pieces.
-/
namespace Go.Proofs.YthgmmajoinkblaaDoor
open Go Go.RowKit Go.Lib Go.Sort

/-- The spans of the sets' forms. -/
noncomputable def allF (S : List SetV) : List SpanV := (setsL S).flatMap formOf
theorem allF_succ {S : List SetV} {i : Nat} {x : SetV} (h : S[i]? = some x) : allF (S.take (i + 1)) = allF (S.take i) ++ formOf x.L := by
  unfold allF setsL
  rw [List.take_add_one, h, List.map_append, List.flatMap_append]
  simp
theorem allF_len (S : List SetV) : (allF S).length ≤ (allS S).length := by
  unfold allF setsL allS
  induction S with
  | nil => simp
  | cons x r ih =>
    simp only [List.map_cons, List.flatMap_cons, List.length_append]
    have := formOf_len x.L
    omega
/-- The row that Form made is not touched. -/
def FarRow (W1 wx : World) (sb : Nat) (o : Value) (A : Option Addr) : Prop := ∀ g, A = some ⟨g, 0, none⟩ → g < W1.heap.size ∧ g ≠ sb ∧ o.ownBlock ≠ some g ∧ wx.heap[g]? = W1.heap[g]?
theorem FarRow.step {W1 wx wy : World} {sb : Nat} {o o' : Value} {A : Option Addr} (h : FarRow W1 wx sb o A) (hs : W1.heap.size ≤ wx.heap.size) (hf : Far sb o o' wx wy) : FarRow W1 wy sb o' A := fun g hg => by
  obtain ⟨a, b, c, d⟩ := h g hg
  obtain ⟨e, f⟩ := hf.kept g (Nat.lt_of_lt_of_le a hs) b c
  exact ⟨a, b, f, e.trans d⟩
theorem cell_same {w w' : World} {g i : Nat} (h : w'.heap[g]? = w.heap[g]?) : w'.cell? ⟨g, i, none⟩ = w.cell? ⟨g, i, none⟩ := by
  unfold World.cell?
  rw [h]
set_option maxRecDepth 100000 in
set_option maxHeartbeats 4000000 in
theorem pieces_any (most : Int) (S : List SetV) (vs : Value) (w : World) (hS : SetsAt w w.heap.size vs S) (hm : 0 ≤ most ∧ most < 4294967296) (hlen : (allS S).length ≤ 1073741824) (hlen2 : S.length ≤ 1024) :
    Calls Tryd.prog 4 #[.int .u32 most, vs] w (PiecesRes most (setsL S) w) := by
  obtain ⟨i0, hi, hz0, hz1, hz2⟩ := info_parts Tryd.infoSpan
  obtain ⟨A0, c0, rfl, hc0⟩ := hS.1.form
  have HS := Lib.hid hS
  have hS0 : ¬ (1024 : Int) < (S.length : Int) := by omega
  have hF := allF_len S
  clear hS
  have HB0 := Lib.hid (blk1 w (.cells #[.int .u32 most] 22))
  have HB1 := Lib.hid (blk1 (w.alloc (.cells #[.int .u32 most] 22)) (.cells #[.slice none 0 0] 35))
  go_enter Tryd.func4, Tryd.ntmps4
  go_wp2
  go_loopw [21] (fun i wr => ∃ (j : Nat) (D : List Int) (o : Value), i = .int .i64 j ∧ j ≤ S.length ∧ PSt w w.heap.size (w.heap.size + 1) most D o wr ∧ Noted most (allF (S.take j)) D) (fun i _ => S.length - (intOf i).toNat)
  case atStart => exact ⟨0, [], .slice none 0 0, rfl, by omega, ⟨by simpa using HB1.out, World.ownsRow_nil _ _ _ _, ((below1 _ _).block _ (by simp)).trans HB0.out, (below1 w _).trans ((below1 _ _).mono (by simp))⟩, Noted.nil _⟩
  case round =>
    obtain ⟨j, D, o, rfl, hj, hP, hN⟩ := hrel
    have hsz := hP.below.size
    have hsb := lt_of_block hP.cell
    by_cases hlt : j < S.length
    · have hI : (j : Int) < (S.length : Int) := by omega
      obtain ⟨x, hx⟩ : ∃ x, S[j]? = some x := ⟨_, List.getElem?_eq_getElem hlt⟩
      have hxr := (HS.out.2 x (List.mem_of_getElem? hx)).below hP.below
      have hSTEP := Lib.hid (allF_succ hx)
      obtain ⟨b, off, c', hv, _, _, hcell⟩ := (HS.out.1.below hP.below).pos (by omega)
      injection hv with hv1 _ hv3
      subst hv1 hv3
      have f0 : wr.cell? ⟨b, off + j, none⟩ = some x.v := hcell j _ (by simp [svals, hx])
      obtain ⟨Ax, cx, hxv, hcx⟩ := hxr.form
      rw [hxv] at f0
      have hle : (allF (S.take (j + 1))).length ≤ (allF S).length := by
        have e : allF S = allF (S.take (j + 1)) ++ allF (S.drop (j + 1)) := by unfold allF setsL; rw [← List.flatMap_append, ← List.map_append, List.take_append_drop]
        rw [e, List.length_append]; omega
      have hxl : x.L.length ≤ 1099511627776 := by
        have : x.L.length ≤ (allS S).length := by
          obtain ⟨A, B, e⟩ := List.append_of_mem (List.mem_of_getElem? hx)
          rw [e]; simp [allS]; omega
        omega
      rw [hSTEP.out, List.length_append] at hle
      have HFO := Lib.hid (form_any x.L (.slice Ax x.L.length cx) wr (by rw [← hxv]; exact hxr.mono hsz) hxl)
      have HP := Lib.hid hP
      have HN := Lib.hid hN
      clear hcell hx hxr hxv hP hN
      generalize allF (S.take j) = T at *
      go_wp2_with fail
      refine HFO.out.mono ?_
      rintro e W1 ⟨v1, rfl, hown1, hb1⟩
      obtain ⟨A1, c1, rfl, hA1⟩ := owns_form hown1
      have hP1 := HP.out.up hb1
      have hfr : FarRow W1 W1 (w.heap.size + 1) o (A1) := fun g hg => by
        subst hg
        have h1 := hown1.lt g rfl
        have h2 := fun hh => (HP.out.row.lt g hh).2
        exact ⟨h1.2, by omega, fun hh => by have := h2 hh; omega, rfl⟩
      have HO1 := Lib.hid hown1
      have HP1 := Lib.hid hP1
      have HFR := Lib.hid hfr
      clear hown1 hb1 hP1 hfr HP HFO
      generalize formOf x.L = F at *
      go_wp2
      go_loopw [28] (fun i wx => ∃ (k : Nat) (D' : List Int) (o' : Value), i = .int .i64 k ∧ k ≤ F.length ∧ PSt w w.heap.size (w.heap.size + 1) most D' o' wx ∧ Noted most (T ++ F.take k) D' ∧ FarRow W1 wx (w.heap.size + 1) o' A1 ∧ W1.heap.size ≤ wx.heap.size) (fun i _ => F.length - (intOf i).toNat)
      case atStart => exact ⟨0, D, o, rfl, by omega, HP1.out, by simpa using HN.out, HFR.out, Nat.le_refl _⟩
      case round =>
        obtain ⟨k, D', o', rfl, hk, hP, hN, hfr, hsz1⟩ := hrel
        have hsw := hP.below.size
        have hsb2 := lt_of_block hP.cell
        by_cases hlt2 : k < F.length
        · have hI2 : (k : Int) < (F.length : Int) := by omega
          obtain ⟨s, hs⟩ : ∃ s, F[k]? = some s := ⟨_, List.getElem?_eq_getElem hlt2⟩
          obtain ⟨g, rfl⟩ := hA1 (by omega)
          obtain ⟨b2, o2, c', hv, _, hbB, hcell⟩ := (Rd.of_own HO1.out).posAt (by omega)
          injection hv with hv1 _ hv3
          injection hv1 with hv1
          injection hv1 with hv1 hv2
          subst hv1 hv2 hv3
          have hsame := (hfr g rfl).2.2.2
          have f0 : wr.cell? ⟨g, k * 2, none⟩ = some (.int .u32 s.lo) := (cell_same hsame).trans (by simpa using hcell k 0 _ (scell hs rfl))
          have f1 : wr.cell? ⟨g, k * 2 + 1, none⟩ = some (.int .u32 s.hi) := (cell_same hsame).trans (by simpa using hcell k 1 _ (scell hs rfl))
          have hN2 := hN.snoc s
          have hDl : D'.length ≤ 1099511627776 := by have := hN.2; have : (F.take k).length ≤ F.length := by { rw [List.length_take]; omega }; simp only [List.length_append] at *; omega
          have hDl2 : (noted most D' s.lo).length ≤ 1099511627776 := by have := hN.2; have := noted_len most D' s.lo; have : (F.take k).length ≤ F.length := by { rw [List.length_take]; omega }; simp only [List.length_append] at *; omega
          have hlo := s.hlo
          have hhi := s.hhi
          have hKB := blk1 wr (.cells #[.int .u32 s.lo, .int .u32 s.hi] 24)
          have hPA := hP.up (below1 wr (.cells #[.int .u32 s.lo, .int .u32 s.hi] 24))
          have hnk : o'.ownBlock ≠ some wr.heap.size := fun hh => by have := (hP.row.lt _ hh).2; omega
          have hfA := hfr.step hsz1 (Far.up (below1 wr (.cells #[.int .u32 s.lo, .int .u32 s.hi] 24)))
          have HCUT := Lib.hid (cutP_any w _ _ _ most s.lo D' o' hPA hm (by omega) ⟨Nat.le_refl _, Nat.lt_succ_self _⟩ hDl)
          rw [List.append_assoc, ← take_snoc hs] at hN2
          have HN2 := Lib.hid hN2
          have HK := Lib.hid hKB
          have HNK := Lib.hid hnk
          have HFA := Lib.hid hfA
          have HSZ := Lib.hid hsz1
          have hw1 : s.lo % 18446744073709551616 = s.lo := by omega
          have hw2 : s.hi % 18446744073709551616 = s.hi := by omega
          have hw3 : (s.hi + 1) % 18446744073709551616 = s.hi + 1 := by omega
          clear hcell hs hP hN hN2 hDl hKB hPA hnk hfA hfr hsz1 hbB hsame
          go_wp2_with fail
          refine HCUT.out.mono ?_
          rintro e w2 ⟨rfl, o2, hP2, hF2⟩
          have hk2 := hF2.kept wr.heap.size (by simp) (by omega) HNK.out
          have kb2 := hk2.1.trans HK.out
          obtain ⟨y0, y1, _, _⟩ := two_cells kb2
          have HCUT2 := Lib.hid (cutP_any w _ _ _ most (s.hi + 1) _ o2 hP2 hm (by omega) ⟨Nat.le_refl _, Nat.lt_succ_self _⟩ hDl2)
          have HFB := Lib.hid (HFA.out.step (by have := HSZ.out; simp; omega) hF2)
          have HSB := Lib.hid (show W1.heap.size ≤ w2.heap.size by have := HSZ.out; have := hF2.size; simp at this; omega)
          clear hP2 hF2 hk2 kb2 HCUT HK HNK HFA HSZ f0 f1
          go_wp2_with fail
          refine HCUT2.out.mono ?_
          rintro e w3 ⟨rfl, o3, hP3, hF3⟩
          have HP3 := Lib.hid hP3
          have HFC := Lib.hid (HFB.out.step HSB.out hF3)
          have HSC := Lib.hid (Nat.le_trans HSB.out hF3.size)
          clear hP3 hF3
          go_wp2
          exact ⟨⟨k + 1, _, o3, by go_num, by omega, HP3.out, HN2.out, HFC.out, HSC.out⟩, by simp only [intOf]; omega⟩
        · obtain rfl : k = F.length := by omega
          rw [List.take_length] at hN
          go_wp2
          exact ⟨⟨j + 1, D', o', by go_num, by omega, hP, by rw [hSTEP.out]; exact hN⟩, by simp only [intOf]; omega⟩
    · obtain rfl : j = S.length := by omega
      rw [List.take_length] at hN
      have c6 : wr.cell? ⟨w.heap.size + 1, 0, none⟩ = some o := by rw [cell_of_row wr _ 0 _ _ (0, 0) hP.cell]; rfl
      have hDl : D.length ≤ 2147483648 := by have := hN.2; omega
      have HN := Lib.hid hN
      have HP := Lib.hid hP
      have HSORT := Lib.hid (sortU_any D o (w.heap.size + 1 + 1) wr hP.row (by omega))
      clear hN hP
      go_wp2_with fail
      refine HSORT.out.mono ?_
      rintro e w1 ⟨rfl, L', hperm, hpw, hrow, hbel⟩
      have hb1 := hbel (w.heap.size + 1 + 1) (Nat.le_refl _) hsb
      have hsz1 := hb1.size
      have hL' : L'.length = D.length := hperm.length_eq
      have k1 := (hb1.block _ (Nat.lt_succ_self _)).trans HP.out.cell
      have k2 := (hb1.block w.heap.size (by omega)).trans HP.out.box
      have c6' : w1.cell? ⟨w.heap.size + 1, 0, none⟩ = some o := by rw [cell_of_row w1 _ 0 _ _ (0, 0) k1]; rfl
      have HCOMP := Lib.hid (compactU_any L' o (w.heap.size + 1 + 1) (w.heap.size + 1 + 1) w1 hrow (by omega) (Nat.le_refl _) (by omega))
      have HMEM := Lib.hid (ddU_sorted hpw L'.length (Nat.le_refl _))
      have hbw := HP.out.below.trans (hb1.mono (by omega))
      have HL := Lib.hid (ddU_len L' L'.length)
      have HK1 := Lib.hid k1
      have HK2 := Lib.hid k2
      have HBW := Lib.hid hbw
      have HPM := Lib.hid hperm
      have HLL := Lib.hid hL'
      clear hrow hbel hpw hb1 HSORT hperm hL' k1 k2 hbw c6
      go_wp2_with fail
      refine HCOMP.out.mono ?_
      rintro e w2 ⟨v2, rfl, hrow2, hb2⟩
      obtain ⟨A2, c2, rfl, hA2⟩ := owns_form hrow2
      have hSt : StartsOf most (setsL S) (ddU L' L'.length) := HN.out.starts HMEM.out.1 (fun y => (HMEM.out.2 y).trans (by rw [List.take_length]; exact HPM.out.mem_iff))
      have hCl : (ddU L' L'.length).length ≤ 2147483648 := by have := HL.out; have := HLL.out; omega
      generalize ddU L' L'.length = C at *
      have k1 := (hb2.block _ (Nat.lt_succ_self _)).trans HK1.out
      have k2 := (hb2.block w.heap.size (by omega)).trans HK2.out
      have HROW := Lib.hid hrow2
      have HST := Lib.hid hSt
      have HB2 := Lib.hid (HBW.out.trans (hb2.mono (by omega)))
      have y0 : w2.cell? ⟨w.heap.size + 1, 0, none⟩ = some o := by rw [cell_of_row w2 _ 0 _ _ (0, 0) k1]; rfl
      have y1 : w2.frozen? ⟨w.heap.size + 1, 0, none⟩ = false := frozen_of_row w2 _ 0 _ _ k1
      have y2 : w2.cell? ⟨w.heap.size, 0, none⟩ = some (.int .u32 most) := by rw [cell_of_row w2 _ 0 _ _ (0, 0) k2]; rfl
      have hsz2 := hb2.size
      clear hrow2 hSt hb2 HCOMP c6' HMEM HL HLL HPM HN HP HBW HK1 HK2 hDl
      have HW := Lib.hid (HB2.out.setCell (p := ⟨w.heap.size + 1, 0, none⟩) (by show w.heap.size ≤ w.heap.size + 1; omega) (.slice A2 C.length c2))
      have z0 : (w2.setCell ⟨w.heap.size + 1, 0, none⟩ (.slice A2 C.length c2)).cell? ⟨w.heap.size + 1, 0, none⟩ = some (.slice A2 C.length c2) := by rw [cell_of_row _ _ 0 _ _ (0, 0) (heap_set1 k1)]; rfl
      have z1 : (w2.setCell ⟨w.heap.size + 1, 0, none⟩ (.slice A2 C.length c2)).cell? ⟨w.heap.size, 0, none⟩ = some (.int .u32 most) := by rw [cell_of_row _ _ 0 _ _ (0, 0) (set_far k2 (by show w.heap.size ≠ w.heap.size + 1; omega))]; rfl
      have HR3 := Lib.hid (owns_setOff (u := .slice A2 C.length c2) (g := w.heap.size + 1) HROW.out (by omega))
      have hsz3 : w.heap.size + 1 + 1 ≤ (w2.setCell ⟨w.heap.size + 1, 0, none⟩ (.slice A2 C.length c2)).heap.size := by simp [World.setCell]; omega
      clear HROW HB2 y2 HB0 HB1 HS k1 k2
      go_upto_if 52 with fail
      clear y0 y1
      generalize w2.setCell ⟨w.heap.size + 1, 0, none⟩ (.slice A2 C.length c2) = w3 at *
      have z2 := ((below1 w3 (.cells #[.int .u32 0, .int .u32 most] 24)).cell (p := ⟨w.heap.size + 1, 0, none⟩) (by show w.heap.size + 1 < w3.heap.size; omega)).trans z0
      by_cases hbig : 65536 ≤ C.length
      · have hB : decide ((65536 : Int) < (C.length : Int) + 1) = true := decide_eq_true (by omega)
        rw [hB]
        clear hB
        go_wp2
        go_ret2
        exact ⟨_, _, C, rfl, HST.out, .inr ⟨hbig, rfl, rfl⟩, HW.out⟩
      · have hB : decide ((65536 : Int) < (C.length : Int) + 1) = false := decide_eq_false (by omega)
        rw [hB]
        clear hB
        have hown0 : (w3.alloc (.cells #[.int .u32 0, .int .u32 most] 24)).ownsRow w3.heap.size 24 2 (.slice (some ⟨w3.heap.size, 0, none⟩) 1 1) 1 (scells (pcs most 0 [])) := by
          rw [pcs_zero hm]
          exact owns_of_block (blk1 _ _) (Nat.le_refl _) (by decide) rfl rfl rfl (Nat.le_refl _)
        have HO0 := Lib.hid hown0
        have HS3 : w.heap.size < w3.heap.size := by omega
        clear hown0
        go_wp2
        clear z2
        go_loopw [12, 58] (fun v i wr => ∃ k : Nat, i = .int .i64 k ∧ k ≤ C.length ∧ wr.ownsRow w3.heap.size 24 2 v (k + 1) (scells (pcs most 0 (C.take k))) ∧ Below w3.heap.size w3 wr) (fun _ i _ => C.length - (intOf i).toNat)
        case atStart => exact ⟨0, rfl, by omega, HO0.out, below1 _ _⟩
        case round =>
          obtain ⟨k, rfl, hk, hown, hnx⟩ := hrel
          have hsz := hnx.size
          by_cases hlt : k < C.length
          · have hI : (k : Int) < (C.length : Int) := by omega
            obtain ⟨x, hx⟩ : ∃ x, C[k]? = some x := ⟨_, List.getElem?_eq_getElem hlt⟩
            obtain ⟨hx0, hx1, _⟩ := (HST.out.2 x).1 (List.mem_of_getElem? hx)
            obtain ⟨b, off, c', hv, _, hbB, hcell⟩ := ((Rd.of_own HR3.out).below hnx).pos (by omega)
            injection hv with hv1 _ hv3
            subst hv1 hv3
            have f0 : wr.cell? ⟨b, off + k, none⟩ = some (.int .u32 x) := hcell k _ (encU_at hx)
            obtain ⟨A, t, y, hAk, hp1, hy1, hy2, hp2⟩ := pcs_step hx hx0 hx1 hm.2
            subst hAk
            have HP2 := Lib.hid hp2
            rw [hp1] at hown
            obtain ⟨A3, c3, rfl, hA3⟩ := owns_form hown
            obtain ⟨g, rfl⟩ := hA3 (by omega)
            have e1 : wr.cell? ⟨g, A.length * 2 + 1, none⟩ = some (.int .u32 t.hi) := (hown.cellAt (A.length * 2 + 1) (by omega)).trans (scell (L := A ++ [t]) (k := A.length) (i := 1) (x := t) (by simp) rfl)
            have e2 := hown.frozenAt (A.length * 2 + 1)
            have hgB := (hown.lt g rfl).1
            have hwp : (x - 1) % 4294967296 = x - 1 := by omega
            have hi1 : (0 : Int) ≤ (A.length : Int) := by omega
            have hi2 : (A.length : Int) < (A.length : Int) + 1 := by omega
            have s1 := (hown.stored (A.length * 2 + 1) (.int .u32 (x - 1))).1
            rw [show (scells (A ++ [t])).set (A.length * 2 + 1) (.int .u32 (x - 1)) = scells (A ++ [y]) by rw [← hy2]; exact scells_set hy1] at s1
            have n1 := hnx.setCell (p := ⟨g, A.length * 2 + 1, none⟩) hgB (.int .u32 (x - 1))
            have z3 := (n1.cell (p := ⟨w.heap.size, 0, none⟩) HS3).trans z1
            have S1 := Lib.hid s1
            have N1 := Lib.hid n1
            clear hx hp1 hp2 hy1 hy2 hown hnx hcell s1 n1
            go_wp2_with (at_builtin; refine wpList_push rfl _ _ 25 rfl 24 i0 _ 2 8 Tryd.underlying25 hi hz0 hz1 hz2 rfl (by decide) (by decide) [.int .u32 x, .int .u32 most] rfl rfl (by simp) S1.out rfl (enc_one ⟨x, most, by omega, by omega⟩) (by omega) N1.out.size N1.out (Nat.le_refl _) ?_; intro v2 w4 hown2 hb2)
            refine ⟨⟨A.length + 1, by go_num, by omega, ?_, hb2⟩, by simp only [intOf]; omega⟩
            rw [HP2.out, scells_snoc (A ++ [y])]
            exact hown2
          · obtain rfl : k = C.length := by omega
            rw [List.take_length] at hown
            go_wp2
            go_ret2
            refine ⟨_, _, C, rfl, HST.out, .inl ⟨by omega, rfl, ?_⟩, HW.out.trans (hnx.mono (by omega))⟩
            rw [pcs_len]
            exact owns_base hown (by omega)
end Go.Proofs.YthgmmajoinkblaaDoor

/-
  A piece with all that is true of it; how many pieces there are at most. No program in sight.
-/
namespace Go.Proofs.YthgmmajoinkblaaDoor

/-- The numbers of the first i pieces. -/
def nAt (most : Int) (C : List Int) (i : Nat) : Int := if i ≤ C.length then pbeg 0 C i else most + 1
theorem nAt_zero (most : Int) (C : List Int) : nAt most C 0 = 0 := by simp [nAt, pbeg]
theorem nAt_succ (most : Int) (C : List Int) {i : Nat} (h : i < C.length + 1) : nAt most C (i + 1) = pend most C i + 1 := by
  unfold nAt
  by_cases h1 : i + 1 ≤ C.length
  · rw [if_pos h1]
    exact pbeg_succ 0 C most (by omega)
  · rw [if_neg h1]
    obtain rfl : i = C.length := by omega
    rw [pend_last]
theorem nAt_at (most : Int) (C : List Int) {i : Nat} (h : i < C.length + 1) : nAt most C i = pbeg 0 C i := by
  unfold nAt
  rw [if_pos (by omega)]
theorem nAt_end (most : Int) (C : List Int) : nAt most C (C.length + 1) = most + 1 := by
  unfold nAt
  rw [if_neg (by omega)]
structure PieceAt (most : Int) (T : List (List SpanV)) (C : List Int) (i : Nat) (s : SpanV) : Prop where
  at_ : (pcs most 0 C)[i]? = some s
  lo0 : 0 ≤ s.lo
  le : s.lo ≤ s.hi
  hi : s.hi ≤ most
  alike : ∀ L ∈ T, ∀ x, s.lo ≤ x → x ≤ s.hi → hasB L x = hasB L s.lo
  turn : 0 < i → turnB T s.lo = true ∧ 0 < s.lo ∧ ∃ p, (pcs most 0 C)[i - 1]? = some p ∧ p.hi + 1 = s.lo
  first : i = 0 → s.lo = 0
  last : i = C.length → s.hi = most
  n0 : nAt most C i = s.lo
  n1 : nAt most C (i + 1) = s.hi + 1
theorem spanAt_lo {a b : Int} (h : 0 ≤ a ∧ a < 4294967296) : (spanAt a b).lo = a := Int.emod_eq_of_lt h.1 h.2
theorem spanAt_hi {a b : Int} (h : 0 ≤ b ∧ b < 4294967296) : (spanAt a b).hi = b := Int.emod_eq_of_lt h.1 h.2
theorem StartsOf.piece {most : Int} (hm : 0 ≤ most ∧ most < 4294967296) {T : List (List SpanV)} {C : List Int} (h : StartsOf most T C) {i : Nat} (hi : i < C.length + 1) : ∃ s, PieceAt most T C i s := by
  obtain ⟨b0, b1, b2, _⟩ := h.bounds hm.1 hi
  have e1 : (spanAt (pbeg 0 C i) (pend most C i)).lo = pbeg 0 C i := spanAt_lo ⟨b0, by omega⟩
  have e2 : (spanAt (pbeg 0 C i) (pend most C i)).hi = pend most C i := spanAt_hi ⟨by omega, by omega⟩
  refine ⟨spanAt (pbeg 0 C i) (pend most C i), pcs_get most C 0 i hi, by omega, by omega, by omega, ?_, ?_, ?_, ?_, ?_, ?_⟩
  · intro L hL x h1 h2
    rw [e1] at h1 ⊢
    rw [e2] at h2
    exact h.alike hm.1 hi hL h1 h2
  · intro h0
    obtain ⟨k, rfl⟩ : ∃ k, i = k + 1 := ⟨i - 1, by omega⟩
    have hp := pbeg_mem 0 (C := C) (show k < C.length by omega)
    have hq := (h.2 _).1 hp
    rw [e1]
    refine ⟨hq.2.2, hq.1, spanAt (pbeg 0 C k) (pend most C k), pcs_get most C 0 k (by omega), ?_⟩
    obtain ⟨c0, c1, c2, _⟩ := h.bounds hm.1 (show k < C.length + 1 by omega)
    rw [spanAt_hi ⟨by omega, by omega⟩]
    exact (pbeg_succ 0 C most (by omega)).symm
  · rintro rfl
    rw [e1]; rfl
  · rintro rfl
    rw [e2, pend_last]
  · rw [e1]; exact nAt_at most C hi
  · rw [e2]; exact nAt_succ most C hi
/-- A list without repeats, all of another list, is no longer than that. -/
theorem nodup_len : ∀ {A B : List Int}, A.Nodup → (∀ x ∈ A, x ∈ B) → A.length ≤ B.length
  | [], _, _, _ => by simp
  | a :: r, B, hn, hs => by
    have hn' := List.nodup_cons.1 hn
    have ha := hs a (List.mem_cons_self ..)
    have h1 : ∀ x ∈ r, x ∈ B.erase a := fun x hx => by
      have hxa : x ≠ a := fun e => hn'.1 (e ▸ hx)
      exact (List.mem_erase_of_ne hxa).2 (hs x (List.mem_cons_of_mem _ hx))
    have h2 := nodup_len hn'.2 h1
    rw [List.length_erase_of_mem ha] at h2
    have := List.length_pos_of_mem ha
    simp only [List.length_cons]
    omega
def marks (S : List SpanV) : List Int := S.flatMap fun s => [s.lo, s.hi + 1]
theorem marks_len : ∀ S : List SpanV, (marks S).length = 2 * S.length
  | [] => rfl
  | s :: r => by
    show (marks r).length + 1 + 1 = 2 * (r.length + 1)
    rw [marks_len r]; omega
theorem StartsOf.len {most : Int} {T : List (List SpanV)} {C : List Int} (h : StartsOf most T C) : C.length ≤ 2 * T.flatten.length := by
  rw [← marks_len]
  refine nodup_len (h.1.imp fun {a b} hab => by omega) fun x hx => ?_
  obtain ⟨_, _, ht⟩ := (h.2 x).1 hx
  unfold turnB at ht
  obtain ⟨L, hL, hh⟩ := List.any_eq_true.1 ht
  obtain ⟨s, hs, _, ho⟩ := turn_mark (L := L) (x := x) (by simpa [bne] using hh)
  refine List.mem_flatMap.2 ⟨s, List.mem_flatten.2 ⟨L, hL, hs⟩, ?_⟩
  simpa using ho
end Go.Proofs.YthgmmajoinkblaaDoor

/-
  The pieces of the sets that SpansNames asks of. No program in sight.
-/
namespace Go.Proofs.YthgmmajoinkblaaDoor

def ups (m : Nat) : List Int := (List.range m).map fun (i : Nat) => (i : Int) + 1
theorem ups_len (m : Nat) : (ups m).length = m := by simp [ups]
theorem ups_rising (m : Nat) : Rising (ups m) := by
  unfold Rising ups
  rw [List.pairwise_map]
  exact List.pairwise_lt_range.imp fun {a b} h => by omega
theorem ups_mem (m : Nat) (x : Int) : x ∈ ups m ↔ 0 < x ∧ x ≤ m := by
  unfold ups
  rw [List.mem_map]
  constructor
  · rintro ⟨i, hi, rfl⟩
    have := List.mem_range.1 hi
    omega
  · rintro ⟨h0, h1⟩
    exact ⟨(x - 1).toNat, List.mem_range.2 (by omega), by omega⟩
def oddS (i : Nat) : SpanV := ⟨(2 * (i : Int) + 1) % 4294967296, (2 * (i : Int) + 1) % 4294967296, by omega, by omega⟩
def oddL (n : Nat) : List SpanV := (List.range n).map oddS
theorem oddL_len (n : Nat) : (oddL n).length = n := by simp [oddL]
theorem oddL_succ (n : Nat) : oddL (n + 1) = oddL n ++ [oddS n] := by simp [oddL, List.range_succ]
theorem oddL_has {n : Nat} (hn : n ≤ 32768) (x : Int) : hasB (oddL n) x = true ↔ 0 ≤ x ∧ x < 2 * n ∧ x % 2 = 1 := by
  rw [hasB_iff]
  constructor
  · rintro ⟨s, hs, h1, h2⟩
    obtain ⟨i, hi, rfl⟩ := List.mem_map.1 hs
    have := List.mem_range.1 hi
    have e : (oddS i).lo = 2 * (i : Int) + 1 := Int.emod_eq_of_lt (by omega) (by omega)
    have e2 : (oddS i).hi = 2 * (i : Int) + 1 := Int.emod_eq_of_lt (by omega) (by omega)
    omega
  · rintro ⟨h0, h1, h2⟩
    refine ⟨oddS ((x - 1) / 2).toNat, List.mem_map.2 ⟨_, List.mem_range.2 (by omega), rfl⟩, ?_, ?_⟩
    · have e : (oddS ((x - 1) / 2).toNat).lo = 2 * (((x - 1) / 2).toNat : Int) + 1 := Int.emod_eq_of_lt (by omega) (by omega)
      omega
    · have e : (oddS ((x - 1) / 2).toNat).hi = 2 * (((x - 1) / 2).toNat : Int) + 1 := Int.emod_eq_of_lt (by omega) (by omega)
      omega
theorem odd_starts {m : Nat} (hm : m ≤ 65536) : StartsOf m [oddL 32768] (ups m) := by
  refine ⟨ups_rising m, fun x => ?_⟩
  rw [ups_mem]
  constructor
  · rintro ⟨h0, h1⟩
    refine ⟨h0, h1, ?_⟩
    show ((hasB (oddL 32768) x != hasB (oddL 32768) (x - 1)) || false) = true
    rw [Bool.or_false]
    by_cases hx : x % 2 = 1
    · rw [(oddL_has (Nat.le_refl _) x).2 ⟨by omega, by omega, hx⟩]
      have : hasB (oddL 32768) (x - 1) = false := by
        rw [Bool.eq_false_iff]
        intro h
        have := (oddL_has (Nat.le_refl _) _).1 h
        omega
      rw [this]; rfl
    · rw [(oddL_has (Nat.le_refl _) (x - 1)).2 ⟨by omega, by omega, by omega⟩]
      have : hasB (oddL 32768) x = false := by
        rw [Bool.eq_false_iff]
        intro h
        have := (oddL_has (Nat.le_refl _) _).1 h
        omega
      rw [this]; rfl
  · rintro ⟨h0, h1, _⟩
    exact ⟨h0, h1⟩
def spAll : SpanV := ⟨0, 4294967295, by omega, by omega⟩
theorem all_has {x : Int} (h0 : 0 ≤ x) (h1 : x ≤ 4294967295) : hasB [spAll] x = true := hasB_iff.2 ⟨spAll, List.mem_singleton.2 rfl, h0, h1⟩
theorem all_starts : StartsOf 4294967295 [[spAll]] [] := by
  refine ⟨List.Pairwise.nil, fun x => ?_⟩
  constructor
  · intro h; simp at h
  · rintro ⟨h0, h1, ht⟩
    exfalso
    have h : ((hasB [spAll] x != hasB [spAll] (x - 1)) || false) = true := ht
    rw [all_has (by omega) h1, all_has (by omega) (by omega)] at h
    exact absurd h (by decide)
theorem none_starts (most : Int) (n : Nat) : StartsOf most (List.replicate n []) [] := by
  refine ⟨List.Pairwise.nil, fun x => ?_⟩
  constructor
  · intro h; simp at h
  · rintro ⟨_, _, ht⟩
    exfalso
    unfold turnB at ht
    obtain ⟨L, hL, hh⟩ := List.any_eq_true.1 ht
    rw [(List.mem_replicate.1 hL).2] at hh
    simp [hasB] at hh
theorem all_nf : NF [spAll] := ⟨by decide, fun _ h => by simp at h, trivial⟩
theorem all_not : theSet (notP 4294967295 [spAll]) = [] := theSet_eq (R := []) trivial fun x => by
  unfold notP
  by_cases h0 : 0 ≤ x
  · by_cases h1 : x ≤ 4294967295
    · rw [all_has h0 h1]; simp [hasB]
    · simp [hasB, h1]
  · simp [hasB, h0]
theorem all_cnt : cnt [spAll] = 4294967296 := by decide
end Go.Proofs.YthgmmajoinkblaaDoor

/-
  Walks over the addresses' texts: Parse.
-/
namespace Go.Proofs.YthgmmajoinkblaaDoor
open Go Go.RowKit Go.Sort

theorem cells_str {w : World} {g : Nat} {L : List ByteArray} {t : TypeId} {p} (h : w.heap[g]? = some (.cells (L.map Value.string).toArray t p)) {k : Nat} {x : ByteArray} (hk : L[k]? = some x) : w.cell? ⟨g, k, none⟩ = some (.string x) := by
  rw [cell_of_row w g k _ _ _ h]
  simp [hk]

theorem u32_orN (a b : Nat) (ha : a < 4294967296) (hb : b < 4294967296) : bits .or .u32 (a : Int) (b : Int) = ((a ||| b : Nat) : Int) := by
  rw [u32_or _ _ (by omega) (by omega) (by omega) (by omega), Int.toNat_natCast, Int.toNat_natCast]
theorem or_byte (n v : Nat) (hn : n < 16777216) (hv : v < 256) : bits .or .u32 ((n : Int) * 256 % 4294967296) ((v : Int) % 4294967296) = ((n * 256 + v : Nat) : Int) := by
  have e1 : (n : Int) * 256 % 4294967296 = ((n * 256 : Nat) : Int) := by rw [Int.emod_eq_of_lt (by omega) (by omega)]; simp
  have e2 : (v : Int) % 4294967296 = (v : Int) := by omega
  have h := Nat.shiftLeft_add_eq_or_of_lt (b := v) (i := 8) (by omega) n
  rw [Nat.shiftLeft_eq, show (2 : Nat) ^ 8 = 256 from rfl] at h
  rw [e1, e2, h]
  exact u32_orN (n * 256) v (by omega) (by omega)
theorem or_byte' (n v : Nat) (hn : n < 16777216) (hv : v < 256) : bits .or .u32 ((n : Int) * 256) (v : Int) = ((n * 256 + v : Nat) : Int) := by
  have h := or_byte n v hn hv
  rwa [Int.emod_eq_of_lt (by omega) (by omega), Int.emod_eq_of_lt (by omega) (by omega)] at h
theorem or_byte_le (n v : Nat) (hn : n < 16777216) (hv : v < 256) : n * 256 + v < 4294967296 := by omega
end Go.Proofs.YthgmmajoinkblaaDoor

/-
  Plain lemmas on numbers that the walks of this seat use; no program in sight.
-/
namespace Go.Proofs.YthgmmajoinkblaaDoor
open Go.RowKit

/-- Two to the k, as an integer, behind a name. -/
def p2 (k : Nat) : Int := 2 ^ k
theorem p2_zero : p2 0 = 1 := rfl
theorem p2_succ (k : Nat) : p2 (k + 1) = 2 * p2 k := by unfold p2; rw [Int.pow_succ]; omega
theorem p2_pos (k : Nat) : 1 ≤ p2 k := by
  induction k with
  | zero => simp [p2_zero]
  | succ k ih => rw [p2_succ]; omega
theorem p2_mono {j k : Nat} (h : j ≤ k) : p2 j ≤ p2 k := by
  induction k with
  | zero => have : j = 0 := by omega
            subst this; exact Int.le_refl _
  | succ k ih =>
    rcases Nat.lt_or_ge j (k + 1) with h1 | h1
    · have := ih (by omega); have := p2_pos k; rw [p2_succ]; omega
    · have : j = k + 1 := by omega
      subst this; exact Int.le_refl _
theorem p2_32 : p2 32 = 4294967296 := by decide
theorem p2_le32 {k : Nat} (h : k ≤ 32) : p2 k ≤ 4294967296 := by have := p2_mono h; rw [p2_32] at this; exact this


/-- How many addresses are in a prefix of n bits. -/
def sz (n : Int) : Int := p2 (32 - n.toNat)
theorem sz_pos (n : Int) : 1 ≤ sz n := p2_pos _
theorem sz_le (n : Int) : sz n ≤ 4294967296 := p2_le32 (by omega)
theorem sz_dvd (n : Int) : sz n ∣ 4294967296 := by
  refine ⟨p2 (32 - (32 - n.toNat)), ?_⟩
  rw [← p2_32]; unfold sz p2
  rw [← Int.pow_add]; congr 1; omega
/-- The refusal of a prefix: 0, 1 (bits out of range), 10 (bits behind the mask). -/
def chk (a n : Int) : Int := if n < 0 ∨ 32 < n then 1 else if a % sz n = 0 then 0 else 10
theorem chk_range (a n : Int) (h : n < 0 ∨ 32 < n) : chk a n = 1 := by unfold chk; rw [if_pos h]
theorem chk_zero (a n : Int) (h0 : 0 ≤ n) (h1 : n ≤ 32) (h : a % sz n = 0) : chk a n = 0 := by unfold chk; rw [if_neg (by omega), if_pos h]
theorem chk_mask (a n : Int) (h0 : 0 ≤ n) (h1 : n ≤ 32) (h : ¬ a % sz n = 0) : chk a n = 10 := by unfold chk; rw [if_neg (by omega), if_neg h]
theorem chk_ok {a n : Int} (h : chk a n = 0) : 0 ≤ n ∧ n ≤ 32 ∧ a % sz n = 0 := by
  unfold chk at h
  split at h
  · simp at h
  · split at h
    · rename_i h1 h2; exact ⟨by omega, by omega, h2⟩
    · simp at h
/-- Is an address in a prefix? -/
def inB (x a n : Int) : Bool := decide (chk a n = 0 ∧ a ≤ x ∧ x < a + sz n)


/-- The exponent of the greatest power of two, at most 2^k, that divides the place and does not go beyond the end. -/
def pick (a e : Int) : Nat → Nat
  | 0 => 0
  | k + 1 => if a % p2 (k + 1) = 0 ∧ a + p2 (k + 1) ≤ e then k + 1 else pick a e k
theorem pick_le (a e : Int) (k : Nat) : pick a e k ≤ k := by
  induction k with
  | zero => exact Nat.le_refl _
  | succ k ih => unfold pick; split <;> omega
theorem pick_hit (a e : Int) (k : Nat) (h : a % p2 k = 0) (h' : a + p2 k ≤ e) : pick a e k = k := by
  cases k with
  | zero => rfl
  | succ k => unfold pick; rw [if_pos ⟨h, h'⟩]
theorem pick_miss (a e : Int) (k : Nat) (h : ¬ (a % p2 (k + 1) = 0 ∧ a + p2 (k + 1) ≤ e)) : pick a e (k + 1) = pick a e k := by
  conv => lhs; unfold pick
  rw [if_neg h]
theorem pick_ok (a e : Int) (k : Nat) (h : a < e) : a % p2 (pick a e k) = 0 ∧ a + p2 (pick a e k) ≤ e := by
  induction k with
  | zero => simp [pick, p2_zero]; omega
  | succ k ih =>
    unfold pick
    split
    · rename_i h; exact h
    · exact ih
/-- The prefixes of the places from a up to (not with) e. -/
def cutL (e : Int) : Nat → Int → List (Int × Int)
  | 0, _ => []
  | f + 1, a => if a < e then (a, 32 - (pick a e 32 : Int)) :: cutL e f (a + p2 (pick a e 32)) else []
theorem cutL_done (e a : Int) (f : Nat) (h : e ≤ a) : cutL e f a = [] := by
  cases f with
  | zero => rfl
  | succ f => unfold cutL; rw [if_neg (by omega)]
theorem cutL_step (e a : Int) (f : Nat) (h : a < e) : cutL e (f + 1) a = (a, 32 - (pick a e 32 : Int)) :: cutL e f (a + p2 (pick a e 32)) := by
  conv => lhs; unfold cutL
  rw [if_pos h]

end Go.Proofs.YthgmmajoinkblaaDoor

/-
  Walks over the leaves of the addresses' layer: the reference's size, the program's behind.
-/
namespace Go.Proofs.YthgmmajoinkblaaDoor
open Go.RowKit

end Go.Proofs.YthgmmajoinkblaaDoor

/-
  Plain lemmas on bits and powers of two, in the words of the model's operations on numbers; no program in sight.
-/
namespace Go.Proofs.YthgmmajoinkblaaDoor
open Go Go.RowKit

theorem p2_cast (k : Nat) : p2 k = ((2 ^ k : Nat) : Int) := by unfold p2; simp
theorem sz_nat (n : Int) : sz n = ((2 ^ (32 - n.toNat) : Nat) : Int) := p2_cast _

theorem nat_high (a k : Nat) (hk : k ≤ 32) (ha : a < 2 ^ 32) : a &&& (2 ^ 32 - 1 - (2 ^ k - 1)) = a - a % 2 ^ k := by
  have h1 : a - a % 2 ^ k = (a >>> k) <<< k := by
    rw [Nat.shiftLeft_eq, Nat.shiftRight_eq_div_pow]
    have := Nat.div_add_mod a (2 ^ k)
    rw [Nat.mul_comm] at this
    omega
  rw [h1]
  apply Nat.eq_of_testBit_eq
  intro i
  rw [Nat.testBit_and, Nat.testBit_shiftLeft, Nat.testBit_shiftRight]
  have hm : 2 ^ 32 - 1 - (2 ^ k - 1) = 2 ^ 32 - 2 ^ k := by
    have := Nat.two_pow_pos k; omega
  have hs : 2 ^ 32 - 2 ^ k = (2 ^ (32 - k) - 1) <<< k := by
    rw [Nat.shiftLeft_eq, Nat.sub_mul, ← Nat.pow_add]; congr 1
    · congr 1; omega
    · omega
  rw [hm, hs, Nat.testBit_shiftLeft, Nat.testBit_two_pow_sub_one]
  by_cases hi : k ≤ i
  · have e : k + (i - k) = i := by omega
    rw [e]
    by_cases h32 : i < 32
    · simp [hi]; omega
    · have : a.testBit i = false := Nat.testBit_lt_two_pow (Nat.lt_of_lt_of_le ha (Nat.pow_le_pow_right (by omega) (by omega)))
      simp [this]
  · simp [hi]

theorem and_sz (a n : Int) (ha : 0 ≤ a) (hb : a < 4294967296) : bits .and .u32 a (sz n - 1) = a % sz n := by
  obtain ⟨a, rfl⟩ := Int.eq_ofNat_of_zero_le ha
  have hp := sz_pos n
  have hq := sz_le n
  rw [u32_and _ _ ha hb (by omega) (by omega), sz_nat]
  have e : (((2 ^ (32 - n.toNat) : Nat) : Int) - 1).toNat = 2 ^ (32 - n.toNat) - 1 := by omega
  rw [e, Int.toNat_natCast, Nat.and_two_pow_sub_one_eq_mod]
  exact Int.natCast_emod _ _

theorem andNot_sz (a n : Int) (ha : 0 ≤ a) (hb : a < 4294967296) : bits .andNot .u32 a (sz n - 1) = a - a % sz n := by
  obtain ⟨a, rfl⟩ := Int.eq_ofNat_of_zero_le ha
  have hp := sz_pos n
  have hq := sz_le n
  rw [u32_andNot _ _ ha hb (by omega) (by omega), sz_nat]
  have e : (((2 ^ (32 - n.toNat) : Nat) : Int) - 1).toNat = 2 ^ (32 - n.toNat) - 1 := by omega
  rw [e, Int.toNat_natCast]
  have h := nat_high a (32 - n.toNat) (by omega) (by omega)
  rw [show (4294967295 : Nat) = 2 ^ 32 - 1 by decide, h, ← Int.natCast_emod]
  have := Nat.mod_le a (2 ^ (32 - n.toNat))
  omega


theorem not32 (x : Int) (h0 : 0 ≤ x) (h1 : x < 4294967296) : bits .xor .u32 IntKind.u32.max x = 4294967295 - x := by
  obtain ⟨x, rfl⟩ := Int.eq_ofNat_of_zero_le h0
  have e : IntKind.u32.max = 4294967295 := by decide
  rw [e, u32_xor _ _ (by omega) (by omega) h0 h1]
  have hx : x < 2 ^ 32 := by omega
  have e2 : (4294967295 : Int).toNat = 2 ^ 32 - 1 := by decide
  have e3 : (2 ^ 32 - 1) ^^^ x = 2 ^ 32 - (x + 1) := by
    apply Nat.eq_of_testBit_eq
    intro i
    rw [Nat.testBit_xor, Nat.testBit_two_pow_sub_one, Nat.testBit_two_pow_sub_succ hx]
    by_cases hi : i < 32
    · simp [hi]
    · have : x.testBit i = false := Nat.testBit_lt_two_pow (Nat.lt_of_lt_of_le hx (Nat.pow_le_pow_right (by omega) (by omega)))
      simp [hi, this]
  rw [e2, Int.toNat_natCast, e3]
  omega
theorem bitLen_pred (j : Nat) (h : j ≤ 63) : Lib.bitLen (2 ^ j - 1) = j := by
  induction j with
  | zero => decide
  | succ j ih =>
    have h2 : 2 ^ (j + 1) < 2 ^ 64 := Nat.pow_lt_pow_right (by omega) (by omega)
    have h3 := Nat.two_pow_pos j
    have h4 : 2 ^ (j + 1) = 2 * 2 ^ j := by rw [Nat.pow_succ]; omega
    rw [Lib.bitLen_half _ (by omega) (by omega)]
    have : (2 ^ (j + 1) - 1) / 2 = 2 ^ j - 1 := by omega
    rw [this, ih (by omega)]; omega
/-- The leading zeros of a number of 32 bits. -/
def lz32 (x : Int) : Int := 32 - (Lib.bitLen x.toNat : Int)
theorem lz32_range (x : Int) (h1 : x < 4294967296) : 0 ≤ lz32 x ∧ lz32 x ≤ 32 := by
  unfold lz32
  have := Lib.bitLen_le x.toNat 32 (by omega) (by have : (2 : Nat) ^ 32 = 4294967296 := by decide
                                                  omega)
  omega
theorem lz32_mask (n : Int) (h0 : 0 ≤ n) (h1 : n ≤ 32) : lz32 (sz n - 1) = n := by
  unfold lz32
  rw [sz_nat]
  have e : (((2 ^ (32 - n.toNat) : Nat) : Int) - 1).toNat = 2 ^ (32 - n.toNat) - 1 := by omega
  rw [e, bitLen_pred _ (by omega)]
  omega
theorem bitLen_p2 (j : Nat) (h : j ≤ 63) : Lib.bitLen (p2 j).toNat = j + 1 := by
  rw [p2_cast, Int.toNat_natCast]
  induction j with
  | zero => decide
  | succ j ih =>
    have h2 : 2 ^ (j + 1) < 2 ^ 64 := Nat.pow_lt_pow_right (by omega) (by omega)
    rw [Lib.bitLen_half _ (by have := Nat.two_pow_pos (j + 1); omega) h2]
    have : 2 ^ (j + 1) / 2 = 2 ^ j := by rw [Nat.pow_succ]; omega
    rw [this, ih (by omega)]; omega
theorem p2_lt64 {j : Nat} (h : j ≤ 63) : p2 j ≤ 18446744073709551615 := by
  rw [p2_cast]
  have h2 : 2 ^ j < 2 ^ 64 := Nat.pow_lt_pow_right (by omega) (by omega)
  have e : (2 : Nat) ^ 64 = 18446744073709551616 := by decide
  omega
end Go.Proofs.YthgmmajoinkblaaDoor

/-
  Walks over the addresses' layer: behind, Check, In, Within; the program's and the reference's.
-/
namespace Go.Proofs.YthgmmajoinkblaaDoor
open Go Go.RowKit Go.Sort

theorem behind_val (n : Int) (h0 : 0 ≤ n) (h1 : n ≤ 32) : IntKind.u64.wrap (IntKind.u64.wrap (2 ^ (32 - n).toNat) - 1) % 4294967296 = sz n - 1 := by
  have e : (32 - n).toNat = 32 - n.toNat := by omega
  have hp := p2_pos (32 - n.toNat)
  have hq := p2_le32 (k := 32 - n.toNat) (by omega)
  rw [e]
  show IntKind.u64.wrap (IntKind.u64.wrap (p2 (32 - n.toNat)) - 1) % 4294967296 = p2 (32 - n.toNat) - 1
  simp only [IntKind.wrap, IntKind.bits, IntKind.signed]
  omega
end Go.Proofs.YthgmmajoinkblaaDoor
