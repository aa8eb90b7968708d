/-
  Joined texts: Sp7, Sp8, Sp9, Sp4, Sp5, Sp10, Sx1.
-/
import Derived.Test.YtmgeknghgngliaaDoorMRoutesNames11
import Derived.Test.YtmgeknghgngliaaDoorProg
import Derived.Deep.DeepCutAuto
import Derived.Deep.RegionLaw
import Derived.Deep.CutBlock
import Derived.Test.YtmgeknghgngliaaDoorMRoutesNames8
import Derived.Test.YtmgeknghgngliaaDoorMRoutesNames5
import Derived.Test.YtmgeknghgngliaaDoorMRoutesNames9
/-
  The walk of the document's put: a number put in its place, once.
-/
namespace Go.Proofs.YtmgeknghgngliaaDoor
open Go Go.RowKit Go.Lib Go.Sort

theorem Tryd.infoU32 : (Tryd.prog.info? 22).map (fun i => (i.zero, i.size, i.bytes)) = some (some (.int .u32 0), 1, 4) := by kernel_rfl
def encU (l : List Int) : List Value := l.map (Value.int .u32 ·)
theorem encU_len (l : List Int) : (encU l).length = l.length := by simp [encU]
theorem encU_at {l : List Int} {i : Nat} {x : Int} (h : l[i]? = some x) : (encU l)[i]? = some (.int .u32 x) := by simp [encU, h]
theorem encU_append (a b : List Int) : encU (a ++ b) = encU a ++ encU b := by simp [encU]
theorem encU_one (l : List Int) : ∀ u ∈ encU l, u.oneCell' = true := by
  intro u hu
  obtain ⟨x, _, rfl⟩ := List.mem_map.1 hu
  rfl
theorem below_drew7 {B : Nat} {a w : World} (h : Below B a w) : Below B a w.drew := ⟨h.os, h.tape, h.output, h.size, h.block⟩
theorem put_cells {l : List Int} {k : Nat} (hk : k ≤ l.length) {x : Int} {cur : List Value} {z : Value} (h : cur.take ((l.length + 1) * 1) = encU l ++ [z]) :
    ((splice cur (k + 1) (encU (l.drop k))).take (l.length + 1)).set k (.int .u32 x) = encU (l.take k ++ x :: l.drop k) := by
  rw [Nat.mul_one] at h
  obtain ⟨v, hv⟩ : ∃ v, cur.take (k + 1) = encU (l.take k) ++ [v] := by
    have e : cur.take (k + 1) = (encU l ++ [z]).take (k + 1) := by
      rw [← h, List.take_take]; congr 1; omega
    obtain ⟨v, hv⟩ : ∃ v, (encU l ++ [z])[k]? = some v := ⟨_, List.getElem?_eq_getElem (by simp [encU]; omega)⟩
    refine ⟨v, ?_⟩
    rw [e, List.take_add_one, hv, List.take_append_of_le_length (by rw [encU_len]; exact hk)]
    simp [encU, List.map_take]
  have hl : (encU (l.take k) ++ [v]).length = k + 1 := by simp [encU]; omega
  unfold splice
  rw [hv, ← List.append_assoc, List.take_append_of_le_length (by simp [encU]; omega), List.take_of_length_le (by simp [encU]; omega), encU_append]
  rw [List.append_assoc, List.set_append_right _ _ (by simp [encU]; omega)]
  have e0 : k - (encU (l.take k)).length = 0 := by simp [encU]; omega
  rw [e0]
  rfl
def PutRes (V : Value) (l : List Int) (x most : Int) (base : Nat) (w : World) (e : Ending) (w' : World) : Prop :=
  ∃ (v : Value) (m : List Int), e = .returned v ∧ w'.ownsRow base 22 1 v m.length (encU m) ∧ Rising m ∧ (∀ y, y ∈ m ↔ y ∈ l ∨ (y = x ∧ x ≤ most)) ∧ m.length ≤ l.length + 1 ∧ w.grownBy w' V.ownBlock

end Go.Proofs.YtmgeknghgngliaaDoor

/-
  The walk of the document's cuts.
-/
namespace Go.Proofs.YtmgeknghgngliaaDoor
open Go Go.RowKit Go.Lib Go.Sort

/-- Sets in memory: a slice of slices of spans, all below B. -/
structure SetV where
  v : Value
  L : List SpanV
instance : Inhabited SetV := ⟨⟨.slice none 0 0, []⟩⟩
def svals (S : List SetV) : List Value := S.map (·.v)
def SetsAt (w : World) (B : Nat) (v : Value) (S : List SetV) : Prop :=
  Rd w B 1 v S.length (svals S) ∧ ∀ x ∈ S, Rd w B 2 x.v x.L.length (scells x.L)
theorem SetsAt.below {w w' : World} {B : Nat} {v : Value} {S : List SetV} (h : SetsAt w B v S) (hb : Below B w w') : SetsAt w' B v S := ⟨h.1.below hb, fun x hx => (h.2 x hx).below hb⟩
theorem SetsAt.mono {w : World} {B B' : Nat} {v : Value} {S : List SetV} (h : SetsAt w B v S) (hb : B ≤ B') : SetsAt w B' v S := ⟨h.1.mono hb, fun x hx => (h.2 x hx).mono hb⟩
def allS (S : List SetV) : List SpanV := S.flatMap (·.L)
theorem allS_succ {S : List SetV} {i : Nat} {x : SetV} (h : S[i]? = some x) : allS (S.take (i + 1)) = allS (S.take i) ++ x.L := by
  unfold allS
  rw [List.take_add_one, h, List.flatMap_append]
  simp
def CutsRes (most : Int) (S : List SpanV) (w : World) (e : Ending) (w' : World) : Prop :=
  ∃ v C, e = .returned v ∧ w'.ownsRow w.heap.size 22 1 v C.length (encU C) ∧ CutsOf most S C ∧ C.length ≤ 2 * S.length + 1 ∧ Below w.heap.size w w'
theorem CutsOf.zero (most : Int) : CutsOf most [] [0] := ⟨List.pairwise_singleton _ _, fun y hy => by simp at hy; omega, fun y => by simp⟩
theorem take_snoc {L : List SpanV} {k : Nat} {s : SpanV} (h : L[k]? = some s) : L.take (k + 1) = L.take k ++ [s] := by rw [List.take_add_one, h]; rfl
theorem CutsOf.skip {most : Int} {S : List SpanV} {C : List Int} (h : CutsOf most S C) {s : SpanV} (hs : ¬ s.lo ≤ s.hi) : CutsOf most (S ++ [s]) C := by
  refine ⟨h.1, h.2.1, fun y => (h.2.2 y).trans ⟨fun hh => hh.imp id (fun ⟨t, ht, hm⟩ => ⟨t, List.mem_append_left _ ht, hm⟩), fun hh => hh.imp id (fun ⟨t, ht, hm⟩ => ?_)⟩⟩
  rcases List.mem_append.1 ht with ht | ht
  · exact ⟨t, ht, hm⟩
  · obtain rfl := List.mem_singleton.1 ht
    exact absurd hm.1 hs
/-- Behind the two puts of a span. -/
theorem CutsOf.puts {most : Int} {S : List SpanV} {C C1 C2 : List Int} (h : CutsOf most S C) {s : SpanV} (hs : s.lo ≤ s.hi) (hm : most < 4294967296)
    (h1 : Rising C1 ∧ ∀ y, y ∈ C1 ↔ y ∈ C ∨ (y = s.lo ∧ s.lo ≤ most)) (h2 : Rising C2 ∧ ∀ y, y ∈ C2 ↔ y ∈ C1 ∨ (y = s.hi + 1 ∧ s.hi + 1 ≤ most)) : CutsOf most (S ++ [s]) C2 := by
  have hlo := s.hlo
  have hhi := s.hhi
  refine ⟨h2.1, fun y hy => ?_, fun y => ?_⟩
  · rcases (h2.2 y).1 hy with hy | ⟨rfl, _⟩
    · rcases (h1.2 y).1 hy with hy | ⟨rfl, _⟩
      · exact h.2.1 y hy
      · omega
    · omega
  · rw [h2.2, h1.2, h.2.2]
    constructor
    · rintro (((rfl | ⟨t, ht, hk⟩) | ⟨rfl, hk⟩) | ⟨rfl, hk⟩)
      · exact .inl rfl
      · exact .inr ⟨t, List.mem_append_left _ ht, hk⟩
      · exact .inr ⟨s, List.mem_append_right _ (List.mem_singleton.2 rfl), hs, .inl rfl, hk⟩
      · exact .inr ⟨s, List.mem_append_right _ (List.mem_singleton.2 rfl), hs, .inr rfl, hk⟩
    · rintro (rfl | ⟨t, ht, hk⟩)
      · exact .inl (.inl (.inl rfl))
      · rcases List.mem_append.1 ht with ht | ht
        · exact .inl (.inl (.inr ⟨t, ht, hk⟩))
        · obtain rfl := List.mem_singleton.1 ht
          rcases hk.2.1 with rfl | rfl
          · exact .inl (.inr ⟨rfl, hk.2.2⟩)
          · exact .inr ⟨rfl, hk.2.2⟩
theorem CutsOf.puts1 {most : Int} {S : List SpanV} {C C1 : List Int} (h : CutsOf most S C) {s : SpanV} (hs : s.lo ≤ s.hi) (hm : most < 4294967296)
    (h1 : Rising C1 ∧ ∀ y, y ∈ C1 ↔ y ∈ C ∨ (y = s.lo ∧ s.lo ≤ most)) (hn : ¬ s.hi < most) : CutsOf most (S ++ [s]) C1 :=
  h.puts hs hm h1 ⟨h1.1, fun y => ⟨.inl, fun hh => hh.elim id (fun hh => by omega)⟩⟩

end Go.Proofs.YtmgeknghgngliaaDoor

/-
  The walk of the document's made, and of its five callers.
-/
namespace Go.Proofs.YtmgeknghgngliaaDoor
open Go Go.RowKit Go.Lib Go.Sort

end Go.Proofs.YtmgeknghgngliaaDoor

/-
  The walk of spans.And.
-/
namespace Go.Proofs.YtmgeknghgngliaaDoor
open Go Go.RowKit Go.Lib Go.Sort

theorem meet1_yes {s t : SpanV} (h : max s.lo t.lo ≤ min s.hi t.hi) : ∃ x : SpanV, meet1 s t = [x] ∧ x.lo = max s.lo t.lo ∧ x.hi = min s.hi t.hi := by
  unfold meet1
  rw [if_pos h]
  exact ⟨_, rfl, rfl, rfl⟩
theorem meet1_no {s t : SpanV} (h : ¬ max s.lo t.lo ≤ min s.hi t.hi) : meet1 s t = [] := by
  unfold meet1
  rw [if_neg h]

end Go.Proofs.YtmgeknghgngliaaDoor

/-
  The walks of spans.Not and spans.Less.
-/
namespace Go.Proofs.YtmgeknghgngliaaDoor
open Go Go.RowKit Go.Lib Go.Sort

set_option maxRecDepth 100000 in
set_option maxHeartbeats 4000000 in
theorem not_any (L : List SpanV) (vl : Value) (most : Int) (w : World) (hl : Rd w w.heap.size 2 vl L.length (scells L)) (hlen : L.length ≤ 1099511627776) (hm : 0 ≤ most ∧ most < 4294967296) :
    Calls Tryd.prog 14 #[vl, .int .u32 most] w (SetRes (theSet (notP most L)) w) := by
  obtain ⟨i0, hi, hz0, hz1, hz2⟩ := info_parts Tryd.infoSpan
  have hF := formOf_ok L
  have hFl := formOf_len L
  have hE := Lib.hid (theSet_not hm L)
  generalize hFF : formOf L = F at *
  have HFF := Lib.hid hFF
  clear hFF
  go_enter Tryd.func14, Tryd.ntmps14
  go_wp2_with fail
  refine (form_any L vl w hl hlen).mono ?_
  rintro e w1 ⟨v1, rfl, hown1, hb1⟩
  rw [HFF.out] at hown1
  have rd1 := Rd.of_own hown1
  obtain ⟨A1, c1, rfl, hc1⟩ := rd1.form
  have HR := Lib.hid rd1
  clear rd1 hown1
  go_wp2_with fail
  go_loopw [5, 6, 12] (fun v at' i wr => ∃ j : Nat, i = .int .i64 j ∧ j ≤ F.length ∧ at' = .int .u64 (natAt (F.take j)) ∧ wr.ownsRow w1.heap.size 41 2 v (notTo most F j).length (scells (notTo most F j)) ∧ Below w1.heap.size w1 wr) (fun _ _ i _ => F.length - (intOf i).toNat)
  case atStart => exact ⟨0, rfl, by omega, rfl, World.ownsRow_nil _ _ _ _, Below.refl _ _⟩
  case round =>
    obtain ⟨j, rfl, hj, rfl, hown, hnx⟩ := hrel
    have hat := natAt_range (F := F.take j)
    have hnl := notTo_len most F j
    have hsz := hnx.size
    have hsz1 := hb1.size
    by_cases hlt : j < F.length
    · have hI : (j : Int) < (F.length : Int) := by omega
      obtain ⟨s, hs⟩ : ∃ s, F[j]? = some s := ⟨_, List.getElem?_eq_getElem hlt⟩
      obtain ⟨b, off, c', hv, _, hbB, hcell⟩ := (HR.out.below hnx).posAt (by omega)
      injection hv with hv1 _ hv3
      subst hv1 hv3
      have f0 : wr.cell? ⟨b, off + j * 2, none⟩ = some (.int .u32 s.lo) := hcell j 0 _ (scell hs rfl)
      have f1 : wr.cell? ⟨b, off + j * 2 + 1, none⟩ = some (.int .u32 s.hi) := hcell j 1 _ (scell hs rfl)
      have hlo := s.hlo
      have hhi := s.hhi
      clear hcell
      have hstep := notTo_succ (most := most) hs
      have hstep2 := natAt_succ hs
      have hal := hF.1.at_le hs
      have hsv := hF.1.ok s (List.mem_of_getElem? hs)
      have HS1 := Lib.hid hstep
      have HS2 := Lib.hid hstep2
      clear hstep hstep2 hs
      generalize natAt (F.take j) = at0 at *
      generalize notTo most F j = O at *
      by_cases hg1 : at0 < s.lo
      · by_cases hg2 : at0 ≤ most
        · have hgap : ∃ x, gapOf at0 most s = [x] ∧ x.enc = [.int .u32 at0, .int .u32 (min (s.lo - 1) most)] := by
            unfold gapOf
            rw [dif_pos ⟨hat.1, hg1, hg2, hm.2⟩]
            exact ⟨_, rfl, rfl⟩
          have HGAP := Lib.hid hgap
          clear hgap
          have w1e : at0 % 4294967296 = at0 := by omega
          have w2e : (s.lo - 1) % 4294967296 = s.lo - 1 := by omega
          have hoff : ∀ g, u5.ownBlock = some g → g < wr.heap.size := fun g hg => (hown.lt g hg).2
          go_wp2_with (at_builtin; refine wpList_push2 (v := u5) rfl _ _ 42 rfl 41 i0 _ 2 8 Tryd.underlying42 hi hz0 hz1 hz2 rfl (by decide) (by decide) [.int .u32 at0, .int .u32 (min (s.lo - 1) most)] rfl rfl (by simp) (hown.alloc (.cells #[.int .u32 s.lo, .int .u32 s.hi] 41)) rfl (enc_one ⟨at0, min (s.lo - 1) most, by omega, by omega⟩) (by omega) (by simp; omega) ?_; intro v2 w2 hown2 hgr _; have kb2 : w2.heap[wr.heap.size]? = some (.cells #[.int .u32 s.lo, .int .u32 s.hi] 41 (0, 0)) := (hgr.block wr.heap.size (by simp) (fun hh => by have := hoff _ hh.symm; omega)).trans (blk1 wr _); obtain ⟨y0, y1, _, _⟩ := two_cells kb2)
          have hb2 := below_row (hnx.alloc hsz (.cells #[.int .u32 s.lo, .int .u32 s.hi] 41)) (hown.alloc (.cells #[.int .u32 s.lo, .int .u32 s.hi] 41)) hgr (by simp; omega) (Nat.le_refl _)
          refine ⟨⟨j + 1, by go_num, by omega, by rw [HS2.out], ?_, hb2⟩, by simp only [intOf]; omega⟩
          obtain ⟨x, hx, hxe⟩ := HGAP.out
          rw [HS1.out, hx, scells_snoc, List.length_append, hxe]
          exact hown2
        · have HGAP : Hid (gapOf at0 most s = []) := by
            show gapOf at0 most s = []
            unfold gapOf
            rw [dif_neg (by omega)]
          go_wp2
          refine ⟨⟨j + 1, by go_num, by omega, by rw [HS2.out], by rw [HS1.out, HGAP.out, List.append_nil]; exact hown.alloc _, hnx.alloc hsz _⟩, by simp only [intOf]; omega⟩
      · have HGAP : Hid (gapOf at0 most s = []) := by
          show gapOf at0 most s = []
          unfold gapOf
          rw [dif_neg (by omega)]
        go_wp2
        refine ⟨⟨j + 1, by go_num, by omega, by rw [HS2.out], by rw [HS1.out, HGAP.out, List.append_nil]; exact hown.alloc _, hnx.alloc hsz _⟩, by simp only [intOf]; omega⟩
    · obtain rfl : j = F.length := by omega
      rw [List.take_length] at hat ⊢
      have hall : notAll most F = notTo most F F.length ++ lastOf (natAt F) most := rfl
      have HALL := Lib.hid hall
      clear hall
      generalize notTo most F F.length = O at *
      generalize natAt F = at0 at *
      have hbw : Below w.heap.size w wr := hb1.trans (hnx.mono hsz1)
      by_cases hg2 : at0 ≤ most
      · have hgap : ∃ x, lastOf at0 most = [x] ∧ x.enc = [.int .u32 at0, .int .u32 most] := by
          unfold lastOf
          rw [dif_pos ⟨hat.1, hg2, hm.2⟩]
          exact ⟨_, rfl, rfl⟩
        have HGAP := Lib.hid hgap
        clear hgap
        have w1e : at0 % 4294967296 = at0 := by omega
        go_wp2_with (at_builtin; refine wpList_push rfl _ _ 42 rfl 41 i0 _ 2 8 Tryd.underlying42 hi hz0 hz1 hz2 rfl (by decide) (by decide) [.int .u32 at0, .int .u32 most] rfl rfl (by simp) hown rfl (enc_one ⟨at0, most, by omega, by omega⟩) (by omega) (by omega) (Below.refl w1.heap.size wr) (Nat.le_refl _) ?_; intro v2 w2 hown2 hb2)
        go_ret
        obtain ⟨x, hx, hxe⟩ := HGAP.out
        unfold SetRes
        rw [hE.out, HALL.out, hx, scells_snoc, List.length_append, hxe]
        exact ⟨_, rfl, owns_base hown2 hsz1, hbw.trans (hb2.mono hsz1)⟩
      · have HGAP : Hid (lastOf at0 most = []) := by
          show lastOf at0 most = []
          unfold lastOf
          rw [dif_neg (by omega)]
        go_wp2
        go_ret
        unfold SetRes
        rw [hE.out, HALL.out, HGAP.out, List.append_nil]
        exact ⟨_, rfl, owns_base hown hsz1, hbw⟩

theorem lessP (L M : List SpanV) : theSet (fun x => hasB L x && hasB (theSet (notP 4294967295 M)) x) = theSet (fun x => hasB L x && !hasB M x) := by
  congr 1
  funext x
  have h := (notAll_ok (formOf_ok M).1 (most := 4294967295) (by omega)).2 x
  rw [theSet_not (by omega), h, notP_form]
  unfold notP
  cases hx : hasB L x with
  | false => rfl
  | true =>
    obtain ⟨s, _, h1, h2⟩ := hasB_iff.1 hx
    have := s.hlo
    have := s.hhi
    have e1 : 0 ≤ x := by omega
    have e2 : x ≤ 4294967295 := by omega
    simp [e1, e2]
theorem not_len {most : Int} (hm : 0 ≤ most ∧ most < 4294967296) (L : List SpanV) : (theSet (notP most L)).length ≤ L.length + 1 := by
  rw [theSet_not hm]
  unfold notAll
  have h1 := notTo_len most (formOf L) (formOf L).length
  have h2 := formOf_len L
  have h3 : (lastOf (natAt (formOf L)) most).length ≤ 1 := by unfold lastOf; split <;> simp
  rw [List.length_append]; omega

end Go.Proofs.YtmgeknghgngliaaDoor

/-
  The walks of the document's Form, Or, And, Less and Not, and of Concat and Or of the program.
-/
namespace Go.Proofs.YtmgeknghgngliaaDoor
open Go Go.RowKit Go.Lib Go.Sort

theorem hasB_range {L : List SpanV} {x : Int} (h : hasB L x = true) : 0 ≤ x ∧ x ≤ 4294967295 := by
  obtain ⟨s, _, h1, h2⟩ := hasB_iff.1 h
  have := s.hlo
  have := s.hhi
  omega
theorem soP_or (L M : List SpanV) : soP 1 4294967295 L M = fun x => hasB L x || hasB M x := by
  funext x
  have e : soP 1 4294967295 L M x = (decide (0 ≤ x) && decide (x ≤ 4294967295) && (hasB L x || hasB M x)) := rfl
  rw [e]
  cases h : (hasB L x || hasB M x) with
  | false => simp
  | true =>
    rcases Bool.or_eq_true_iff.1 h with h | h
    · have := hasB_range h; simp [this]
    · have := hasB_range h; simp [this]
theorem soP_and (L M : List SpanV) : soP 2 4294967295 L M = fun x => hasB L x && hasB M x := by
  funext x
  have e : soP 2 4294967295 L M x = (decide (0 ≤ x) && decide (x ≤ 4294967295) && (hasB L x && hasB M x)) := rfl
  rw [e]
  cases h : hasB L x with
  | false => simp
  | true => have := hasB_range h; simp [this]
theorem soP_less (L M : List SpanV) : soP 3 4294967295 L M = fun x => hasB L x && !hasB M x := by
  funext x
  have e : soP 3 4294967295 L M x = (decide (0 ≤ x) && decide (x ≤ 4294967295) && (hasB L x && !hasB M x)) := rfl
  rw [e]
  cases h : hasB L x with
  | false => simp
  | true => have := hasB_range h; simp [this]
theorem soP_not (most : Int) (L : List SpanV) : soP 4 most L [] = notP most L := rfl
theorem soP_form (L : List SpanV) : theSet (soP 1 4294967295 L []) = formOf L := by
  rw [soP_or]
  unfold formOf
  congr 1
  funext x
  rw [hasB_nil, Bool.or_false]
theorem rd_nil (w : World) (B k : Nat) : Rd w B k (.slice none 0 0) 0 [] := ⟨none, 0, rfl, by omega, by simp, fun h => absurd h (by omega)⟩

end Go.Proofs.YtmgeknghgngliaaDoor

/-
  The text of a set: the program's and the document's.
-/
namespace Go.Proofs.YtmgeknghgngliaaDoor
open Go Go.RowKit Go.Lib Go.Sort

theorem fmtInt_any (n : Int) (h0 : 0 ≤ n) (h1 : n < 4294967296) (w : World) (hE : EnvT w) :
    Calls Tryd.prog 38 #[.int .u64 n, .int .i64 10] w fun e w' => e = .returned (.string ⟨(Lib.decDigits n.toNat).toArray⟩) ∧ Below w.heap.size w w' := by
  obtain ⟨u, rfl⟩ := Int.eq_ofNat_of_zero_le h0
  exact fmtUint_any u (by omega) w hE
theorem tB_one {s : SpanV} (h : s.lo = s.hi) : tB s = ⟨(Lib.decDigits s.lo.toNat).toArray⟩ := by
  unfold tB SpanV.t
  rw [if_pos h]
theorem tB_two {s : SpanV} (h : s.lo ≠ s.hi) : tB s = ⟨(Lib.decDigits s.lo.toNat).toArray⟩ ++ (⟨#[45]⟩ ++ ⟨(Lib.decDigits s.hi.toNat).toArray⟩) := by
  apply byte_ext
  unfold tB SpanV.t
  rw [if_neg h]
  simp [ByteArray.data_append]
theorem dec_size {n : Int} (h : n < 4294967296) : (⟨(Lib.decDigits n.toNat).toArray⟩ : ByteArray).size ≤ 10 := by
  show (Lib.decDigits n.toNat).toArray.size ≤ 10
  have := dec32 (n := n.toNat) (by omega)
  simpa using this
theorem words_data (F : List SpanV) : (F.map tB).map (·.data.toList) = F.map SpanV.t := by
  rw [List.map_map]
  rfl
theorem take_tB {F : List SpanV} {j : Nat} {s : SpanV} (h : F[j]? = some s) : ((F.take (j + 1)).map tB).map Value.string = ((F.take j).map tB).map Value.string ++ [.string (tB s)] := by
  rw [List.take_add_one, h]
  simp
set_option maxRecDepth 100000 in
set_option maxHeartbeats 4000000 in
theorem spText_any (L : List SpanV) (vl : Value) (w : World) (hE : EnvT w) (hl : Rd w w.heap.size 2 vl L.length (scells L)) (hlen : L.length ≤ 1000000) :
    Calls Tryd.prog 15 #[vl] w fun e w' => e = .returned (.string ⟨(setT (formOf L)).toArray⟩) ∧ Below w.heap.size w w' := by
  obtain ⟨i0, hi, hz0, hz1, hz2⟩ := info_parts Tryd.infoStr
  obtain ⟨A0, c0, rfl, _⟩ := hl.form
  have hform := form_any L _ w hl (by omega)
  have hFl := formOf_len L
  clear hl
  generalize formOf L = F at *
  by_cases hF : F = []
  · subst hF
    go_enter Tryd.func15, Tryd.ntmps15
    go_wp2_with fail
    refine hform.mono ?_
    rintro e w1 ⟨v1, rfl, hown, hb⟩
    obtain ⟨A1, c1, rfl, _⟩ := owns_form hown
    go_wp2
    go_ret
    exact ⟨rfl, hb⟩
  · have hpos : 0 < F.length := List.length_pos_iff.2 hF
    have hne : ((F.length : Int) == 0) = false := by simp; omega
    have HFN := Lib.hid hF
    clear hF
    go_enter Tryd.func15, Tryd.ntmps15
    go_wp2_with fail
    refine hform.mono ?_
    rintro e w1 ⟨v1, rfl, hown1, hb1⟩
    have hr1 := Rd.of_own hown1
    obtain ⟨b, off, c', rfl, hcc, hbB, hcell⟩ := hr1.posAt hpos
    have HC := Lib.hid hcell
    have hE1 := hE.below hb1
    clear hown1 hr1 hcell hform
    go_wp2
    go_loopw [4, 15] (fun v i wr => ∃ j : Nat, i = .int .i64 j ∧ j ≤ F.length ∧ wr.ownsRow w1.heap.size 9 1 v j (((F.take j).map tB).map Value.string) ∧ Below w1.heap.size w1 wr) (fun _ i _ => F.length - (intOf i).toNat)
    case atStart => exact ⟨0, rfl, by omega, World.ownsRow_nil _ _ _ _, Below.refl _ _⟩
    case round =>
      obtain ⟨j, rfl, hj, hown, hnx⟩ := hrel
      have hsz := hnx.size
      by_cases hlt : j < F.length
      · have hI : (j : Int) < (F.length : Int) := by omega
        obtain ⟨s, hs⟩ : ∃ s, F[j]? = some s := ⟨_, List.getElem?_eq_getElem hlt⟩
        have f0 : wr.cell? ⟨b, off + j * 2, none⟩ = some (.int .u32 s.lo) := (hnx.cell (p := ⟨b, off + j * 2, none⟩) hbB).trans (HC.out j 0 _ (scell hs rfl))
        have f1 : wr.cell? ⟨b, off + j * 2 + 1, none⟩ = some (.int .u32 s.hi) := (hnx.cell (p := ⟨b, off + j * 2 + 1, none⟩) hbB).trans (HC.out j 1 _ (scell hs rfl))
        have hT := Lib.hid (take_tB hs)
        have hlo := s.hlo
        have hhi := s.hhi
        have z1 := dec_size (n := s.lo) (by omega)
        have z2 := dec_size (n := s.hi) (by omega)
        have hEr := hE1.below hnx
        have kb := heap_alloc_new wr (.cells #[.int .u32 s.lo, .int .u32 s.hi] 41)
        have hbA := below1 wr (.cells #[.int .u32 s.lo, .int .u32 s.hi] 41)
        clear hs
        have hcmp : (s.lo = s.hi ∧ (s.lo != s.hi) = false) ∨ (s.lo ≠ s.hi ∧ (s.lo != s.hi) = true) := by
          by_cases h : s.lo = s.hi
          · exact .inl ⟨h, by simp [h]⟩
          · exact .inr ⟨h, by simp [h]⟩
        rcases hcmp with ⟨hc1, hc2⟩ | ⟨hc1, hc2⟩
        · have hq := Lib.hid (tB_one hc1)
          clear hc1
          have hc := Lib.hid (fun W (h : EnvT W) => fmtInt_any s.lo (by omega) (by omega) W h)
          generalize (⟨(Lib.decDigits s.lo.toNat).toArray⟩ : ByteArray) = q1 at *
          go_wp2_with fail
          refine (hc.out _ (hEr.below hbA)).mono ?_
          rintro e w2 ⟨rfl, hb⟩
          have kb2 := blk_below hb kb
          have hb2 := below_call hbA hb
          have own2 := owns_kept_none hown (only_of_below hb2 none)
          have nx2 := hnx.trans (hb2.mono hsz)
          have sz2 := nx2.size
          obtain ⟨x0, x1, _, _⟩ := two_cells kb2
          clear hb hb2 kb2 kb hbA hown hnx f0 f1
          go_wp2_with (at_builtin; refine wpList_push rfl _ _ 67 rfl 9 i0 _ 1 16 Tryd.underlying67 hi hz0 hz1 hz2 rfl (by decide) (by decide) [.string q1] rfl rfl (by simp) own2 rfl (one_str _) (by omega) (by omega) nx2 (Nat.le_refl _) ?_; intro v2 w3 hown2 hb3)
          refine ⟨⟨j + 1, by go_num, by omega, ?_, hb3⟩, by simp only [intOf]; omega⟩
          rw [hT.out, hq.out]
          exact hown2
        · have hq := Lib.hid (tB_two hc1)
          clear hc1
          have hc := Lib.hid (fun W (h : EnvT W) => fmtInt_any s.lo (by omega) (by omega) W h)
          have hd := Lib.hid (fun W (h : EnvT W) => fmtInt_any s.hi (by omega) (by omega) W h)
          generalize (⟨(Lib.decDigits s.lo.toNat).toArray⟩ : ByteArray) = q1 at *
          generalize (⟨(Lib.decDigits s.hi.toNat).toArray⟩ : ByteArray) = q2 at *
          go_wp2_with fail
          refine (hc.out _ (hEr.below hbA)).mono ?_
          rintro e w2 ⟨rfl, hb⟩
          have kb2 := blk_below hb kb
          have hb2 := below_call hbA hb
          obtain ⟨x0, x1, _, _⟩ := two_cells kb2
          clear hb kb hbA f0 f1
          go_wp2_with fail
          refine (hd.out _ (hEr.below hb2)).mono ?_
          rintro e w3 ⟨rfl, hb⟩
          have hb3 := below_call hb2 hb
          have own2 := owns_kept_none hown (only_of_below hb3 none)
          have nx2 := hnx.trans (hb3.mono hsz)
          have sz2 := nx2.size
          clear hb hb2 kb2 hown hnx hb3 x0 x1
          go_upto_region 11 with fail
          generalize q1 ++ (⟨#[45]⟩ ++ q2) = q3 at *
          go_wp2_with (at_builtin; refine wpList_push rfl _ _ 67 rfl 9 i0 _ 1 16 Tryd.underlying67 hi hz0 hz1 hz2 rfl (by decide) (by decide) [.string q3] rfl rfl (by simp) own2 rfl (one_str _) (by omega) (by omega) nx2 (Nat.le_refl _) ?_; intro v2 w4 hown2 hb3)
          refine ⟨⟨j + 1, by go_num, by omega, ?_, hb3⟩, by simp only [intOf]; omega⟩
          rw [hT.out, hq.out]
          exact hown2
      · obtain rfl : j = F.length := by omega
        rw [List.take_length] at hown
        have hI : ¬ (F.length : Int) < (F.length : Int) := by omega
        obtain ⟨A2, c2, rfl, hA2⟩ := owns_form hown
        obtain ⟨g, rfl⟩ := hA2 hpos
        have hg := hown.lt g rfl
        have hcc2 : F.length ≤ c2 := by
          obtain ⟨_, _, h, _⟩ := owns_block hown
          exact h
        have hlen2 : (F.map tB).length = F.length := by simp
        have hjl : (Lib.join ((F.map tB).map (·.data.toList)) [44]).length ≤ 140737488355328 := by
          rw [words_data, ← joinC_join]
          have := joinC_len F
          omega
        have hJ := Tryd.strings_Join g 0 c2 (F.map tB) ⟨#[44]⟩ wr (fun j x hj => by
          have h := hown.cells (g := g) rfl j (.string x) (by rw [List.getElem?_map, hj]; rfl)
          have e : (⟨g, 0, none⟩ : Addr).add j = ⟨g, 0 + j, none⟩ := by simp [Addr.add]; omega
          rw [← e]; exact h) hg.2 (by omega) (by omega) hjl
        rw [hlen2, show ({ data := #[44] } : ByteArray).data.toList = [44] from rfl, words_data, ← joinC_join, ← setT_cons HFN.out] at hJ
        have HJ := Lib.hid hJ
        clear hJ hown hjl hlen2
        go_wp2_with fail
        refine HJ.out.mono ?_
        rintro e w2 ⟨rfl, hb⟩
        have hbw := below_call (hb1.trans (hnx.mono hb1.size)) hb
        go_wp2
        go_ret
        exact ⟨rfl, hbw⟩
end Go.Proofs.YtmgeknghgngliaaDoor
