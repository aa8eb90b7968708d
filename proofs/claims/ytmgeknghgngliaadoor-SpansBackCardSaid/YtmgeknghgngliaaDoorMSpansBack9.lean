/-
  Joined texts: Sp8, Sp9, Sp4, Sp5, Sp10, At3.
-/
import Derived.Test.YtmgeknghgngliaaDoorMSpansBack8
import Derived.Test.YtmgeknghgngliaaDoorMSpansBack6
import Derived.Deep.DeepCutAuto
/-
  The walk of the document's cuts.
-/
namespace Go.Proofs.YtmgeknghgngliaaDoor
open Go Go.RowKit Go.Lib Go.Sort

/-- Sets in memory: a slice of slices of spans, all below B. -/
structure SetV where
  v : Value
  L : List SpanV
instance : Inhabited SetV := ⟨⟨.slice none 0 0, []⟩⟩
def svals (S : List SetV) : List Value := S.map (·.v)
def SetsAt (w : World) (B : Nat) (v : Value) (S : List SetV) : Prop :=
  Rd w B 1 v S.length (svals S) ∧ ∀ x ∈ S, Rd w B 2 x.v x.L.length (scells x.L)
theorem SetsAt.below {w w' : World} {B : Nat} {v : Value} {S : List SetV} (h : SetsAt w B v S) (hb : Below B w w') : SetsAt w' B v S := ⟨h.1.below hb, fun x hx => (h.2 x hx).below hb⟩
theorem SetsAt.mono {w : World} {B B' : Nat} {v : Value} {S : List SetV} (h : SetsAt w B v S) (hb : B ≤ B') : SetsAt w B' v S := ⟨h.1.mono hb, fun x hx => (h.2 x hx).mono hb⟩
def allS (S : List SetV) : List SpanV := S.flatMap (·.L)
theorem allS_succ {S : List SetV} {i : Nat} {x : SetV} (h : S[i]? = some x) : allS (S.take (i + 1)) = allS (S.take i) ++ x.L := by
  unfold allS
  rw [List.take_add_one, h, List.flatMap_append]
  simp
def CutsRes (most : Int) (S : List SpanV) (w : World) (e : Ending) (w' : World) : Prop :=
  ∃ v C, e = .returned v ∧ w'.ownsRow w.heap.size 22 1 v C.length (encU C) ∧ CutsOf most S C ∧ C.length ≤ 2 * S.length + 1 ∧ Below w.heap.size w w'
theorem CutsOf.zero (most : Int) : CutsOf most [] [0] := ⟨List.pairwise_singleton _ _, fun y hy => by simp at hy; omega, fun y => by simp⟩
theorem take_snoc {L : List SpanV} {k : Nat} {s : SpanV} (h : L[k]? = some s) : L.take (k + 1) = L.take k ++ [s] := by rw [List.take_add_one, h]; rfl
theorem CutsOf.skip {most : Int} {S : List SpanV} {C : List Int} (h : CutsOf most S C) {s : SpanV} (hs : ¬ s.lo ≤ s.hi) : CutsOf most (S ++ [s]) C := by
  refine ⟨h.1, h.2.1, fun y => (h.2.2 y).trans ⟨fun hh => hh.imp id (fun ⟨t, ht, hm⟩ => ⟨t, List.mem_append_left _ ht, hm⟩), fun hh => hh.imp id (fun ⟨t, ht, hm⟩ => ?_)⟩⟩
  rcases List.mem_append.1 ht with ht | ht
  · exact ⟨t, ht, hm⟩
  · obtain rfl := List.mem_singleton.1 ht
    exact absurd hm.1 hs
/-- Behind the two puts of a span. -/
theorem CutsOf.puts {most : Int} {S : List SpanV} {C C1 C2 : List Int} (h : CutsOf most S C) {s : SpanV} (hs : s.lo ≤ s.hi) (hm : most < 4294967296)
    (h1 : Rising C1 ∧ ∀ y, y ∈ C1 ↔ y ∈ C ∨ (y = s.lo ∧ s.lo ≤ most)) (h2 : Rising C2 ∧ ∀ y, y ∈ C2 ↔ y ∈ C1 ∨ (y = s.hi + 1 ∧ s.hi + 1 ≤ most)) : CutsOf most (S ++ [s]) C2 := by
  have hlo := s.hlo
  have hhi := s.hhi
  refine ⟨h2.1, fun y hy => ?_, fun y => ?_⟩
  · rcases (h2.2 y).1 hy with hy | ⟨rfl, _⟩
    · rcases (h1.2 y).1 hy with hy | ⟨rfl, _⟩
      · exact h.2.1 y hy
      · omega
    · omega
  · rw [h2.2, h1.2, h.2.2]
    constructor
    · rintro (((rfl | ⟨t, ht, hk⟩) | ⟨rfl, hk⟩) | ⟨rfl, hk⟩)
      · exact .inl rfl
      · exact .inr ⟨t, List.mem_append_left _ ht, hk⟩
      · exact .inr ⟨s, List.mem_append_right _ (List.mem_singleton.2 rfl), hs, .inl rfl, hk⟩
      · exact .inr ⟨s, List.mem_append_right _ (List.mem_singleton.2 rfl), hs, .inr rfl, hk⟩
    · rintro (rfl | ⟨t, ht, hk⟩)
      · exact .inl (.inl (.inl rfl))
      · rcases List.mem_append.1 ht with ht | ht
        · exact .inl (.inl (.inr ⟨t, ht, hk⟩))
        · obtain rfl := List.mem_singleton.1 ht
          rcases hk.2.1 with rfl | rfl
          · exact .inl (.inr ⟨rfl, hk.2.2⟩)
          · exact .inr ⟨rfl, hk.2.2⟩
theorem CutsOf.puts1 {most : Int} {S : List SpanV} {C C1 : List Int} (h : CutsOf most S C) {s : SpanV} (hs : s.lo ≤ s.hi) (hm : most < 4294967296)
    (h1 : Rising C1 ∧ ∀ y, y ∈ C1 ↔ y ∈ C ∨ (y = s.lo ∧ s.lo ≤ most)) (hn : ¬ s.hi < most) : CutsOf most (S ++ [s]) C1 :=
  h.puts hs hm h1 ⟨h1.1, fun y => ⟨.inl, fun hh => hh.elim id (fun hh => by omega)⟩⟩

end Go.Proofs.YtmgeknghgngliaaDoor

/-
  The walk of the document's made, and of its five callers.
-/
namespace Go.Proofs.YtmgeknghgngliaaDoor
open Go Go.RowKit Go.Lib Go.Sort

end Go.Proofs.YtmgeknghgngliaaDoor

/-
  The walk of spans.And.
-/
namespace Go.Proofs.YtmgeknghgngliaaDoor
open Go Go.RowKit Go.Lib Go.Sort

theorem meet1_yes {s t : SpanV} (h : max s.lo t.lo ≤ min s.hi t.hi) : ∃ x : SpanV, meet1 s t = [x] ∧ x.lo = max s.lo t.lo ∧ x.hi = min s.hi t.hi := by
  unfold meet1
  rw [if_pos h]
  exact ⟨_, rfl, rfl, rfl⟩
theorem meet1_no {s t : SpanV} (h : ¬ max s.lo t.lo ≤ min s.hi t.hi) : meet1 s t = [] := by
  unfold meet1
  rw [if_neg h]

end Go.Proofs.YtmgeknghgngliaaDoor

/-
  The walks of spans.Not and spans.Less.
-/
namespace Go.Proofs.YtmgeknghgngliaaDoor
open Go Go.RowKit Go.Lib Go.Sort

set_option maxRecDepth 100000 in
set_option maxHeartbeats 4000000 in
theorem not_any (L : List SpanV) (vl : Value) (most : Int) (w : World) (hl : Rd w w.heap.size 2 vl L.length (scells L)) (hlen : L.length ≤ 1099511627776) (hm : 0 ≤ most ∧ most < 4294967296) :
    Calls Tryd.prog 14 #[vl, .int .u32 most] w (SetRes (theSet (notP most L)) w) := by
  obtain ⟨i0, hi, hz0, hz1, hz2⟩ := info_parts Tryd.infoSpan
  have hF := formOf_ok L
  have hFl := formOf_len L
  have hE := Lib.hid (theSet_not hm L)
  generalize hFF : formOf L = F at *
  have HFF := Lib.hid hFF
  clear hFF
  go_enter Tryd.func14, Tryd.ntmps14
  go_wp2_with fail
  refine (form_any L vl w hl hlen).mono ?_
  rintro e w1 ⟨v1, rfl, hown1, hb1⟩
  rw [HFF.out] at hown1
  have rd1 := Rd.of_own hown1
  obtain ⟨A1, c1, rfl, hc1⟩ := rd1.form
  have HR := Lib.hid rd1
  clear rd1 hown1
  go_wp2_with fail
  go_loopw [5, 6, 12] (fun v at' i wr => ∃ j : Nat, i = .int .i64 j ∧ j ≤ F.length ∧ at' = .int .u64 (natAt (F.take j)) ∧ wr.ownsRow w1.heap.size 41 2 v (notTo most F j).length (scells (notTo most F j)) ∧ Below w1.heap.size w1 wr) (fun _ _ i _ => F.length - (intOf i).toNat)
  case atStart => exact ⟨0, rfl, by omega, rfl, World.ownsRow_nil _ _ _ _, Below.refl _ _⟩
  case round =>
    obtain ⟨j, rfl, hj, rfl, hown, hnx⟩ := hrel
    have hat := natAt_range (F := F.take j)
    have hnl := notTo_len most F j
    have hsz := hnx.size
    have hsz1 := hb1.size
    by_cases hlt : j < F.length
    · have hI : (j : Int) < (F.length : Int) := by omega
      obtain ⟨s, hs⟩ : ∃ s, F[j]? = some s := ⟨_, List.getElem?_eq_getElem hlt⟩
      obtain ⟨b, off, c', hv, _, hbB, hcell⟩ := (HR.out.below hnx).posAt (by omega)
      injection hv with hv1 _ hv3
      subst hv1 hv3
      have f0 : wr.cell? ⟨b, off + j * 2, none⟩ = some (.int .u32 s.lo) := hcell j 0 _ (scell hs rfl)
      have f1 : wr.cell? ⟨b, off + j * 2 + 1, none⟩ = some (.int .u32 s.hi) := hcell j 1 _ (scell hs rfl)
      have hlo := s.hlo
      have hhi := s.hhi
      clear hcell
      have hstep := notTo_succ (most := most) hs
      have hstep2 := natAt_succ hs
      have hal := hF.1.at_le hs
      have hsv := hF.1.ok s (List.mem_of_getElem? hs)
      have HS1 := Lib.hid hstep
      have HS2 := Lib.hid hstep2
      clear hstep hstep2 hs
      generalize natAt (F.take j) = at0 at *
      generalize notTo most F j = O at *
      by_cases hg1 : at0 < s.lo
      · by_cases hg2 : at0 ≤ most
        · have hgap : ∃ x, gapOf at0 most s = [x] ∧ x.enc = [.int .u32 at0, .int .u32 (min (s.lo - 1) most)] := by
            unfold gapOf
            rw [dif_pos ⟨hat.1, hg1, hg2, hm.2⟩]
            exact ⟨_, rfl, rfl⟩
          have HGAP := Lib.hid hgap
          clear hgap
          have w1e : at0 % 4294967296 = at0 := by omega
          have w2e : (s.lo - 1) % 4294967296 = s.lo - 1 := by omega
          have hoff : ∀ g, u5.ownBlock = some g → g < wr.heap.size := fun g hg => (hown.lt g hg).2
          go_wp2_with (at_builtin; refine wpList_push2 (v := u5) rfl _ _ 42 rfl 41 i0 _ 2 8 Tryd.underlying42 hi hz0 hz1 hz2 rfl (by decide) (by decide) [.int .u32 at0, .int .u32 (min (s.lo - 1) most)] rfl rfl (by simp) (hown.alloc (.cells #[.int .u32 s.lo, .int .u32 s.hi] 41)) rfl (enc_one ⟨at0, min (s.lo - 1) most, by omega, by omega⟩) (by omega) (by simp; omega) ?_; intro v2 w2 hown2 hgr _; have kb2 : w2.heap[wr.heap.size]? = some (.cells #[.int .u32 s.lo, .int .u32 s.hi] 41 (0, 0)) := (hgr.block wr.heap.size (by simp) (fun hh => by have := hoff _ hh.symm; omega)).trans (blk1 wr _); obtain ⟨y0, y1, _, _⟩ := two_cells kb2)
          have hb2 := below_row (hnx.alloc hsz (.cells #[.int .u32 s.lo, .int .u32 s.hi] 41)) (hown.alloc (.cells #[.int .u32 s.lo, .int .u32 s.hi] 41)) hgr (by simp; omega) (Nat.le_refl _)
          refine ⟨⟨j + 1, by go_num, by omega, by rw [HS2.out], ?_, hb2⟩, by simp only [intOf]; omega⟩
          obtain ⟨x, hx, hxe⟩ := HGAP.out
          rw [HS1.out, hx, scells_snoc, List.length_append, hxe]
          exact hown2
        · have HGAP : Hid (gapOf at0 most s = []) := by
            show gapOf at0 most s = []
            unfold gapOf
            rw [dif_neg (by omega)]
          go_wp2
          refine ⟨⟨j + 1, by go_num, by omega, by rw [HS2.out], by rw [HS1.out, HGAP.out, List.append_nil]; exact hown.alloc _, hnx.alloc hsz _⟩, by simp only [intOf]; omega⟩
      · have HGAP : Hid (gapOf at0 most s = []) := by
          show gapOf at0 most s = []
          unfold gapOf
          rw [dif_neg (by omega)]
        go_wp2
        refine ⟨⟨j + 1, by go_num, by omega, by rw [HS2.out], by rw [HS1.out, HGAP.out, List.append_nil]; exact hown.alloc _, hnx.alloc hsz _⟩, by simp only [intOf]; omega⟩
    · obtain rfl : j = F.length := by omega
      rw [List.take_length] at hat ⊢
      have hall : notAll most F = notTo most F F.length ++ lastOf (natAt F) most := rfl
      have HALL := Lib.hid hall
      clear hall
      generalize notTo most F F.length = O at *
      generalize natAt F = at0 at *
      have hbw : Below w.heap.size w wr := hb1.trans (hnx.mono hsz1)
      by_cases hg2 : at0 ≤ most
      · have hgap : ∃ x, lastOf at0 most = [x] ∧ x.enc = [.int .u32 at0, .int .u32 most] := by
          unfold lastOf
          rw [dif_pos ⟨hat.1, hg2, hm.2⟩]
          exact ⟨_, rfl, rfl⟩
        have HGAP := Lib.hid hgap
        clear hgap
        have w1e : at0 % 4294967296 = at0 := by omega
        go_wp2_with (at_builtin; refine wpList_push rfl _ _ 42 rfl 41 i0 _ 2 8 Tryd.underlying42 hi hz0 hz1 hz2 rfl (by decide) (by decide) [.int .u32 at0, .int .u32 most] rfl rfl (by simp) hown rfl (enc_one ⟨at0, most, by omega, by omega⟩) (by omega) (by omega) (Below.refl w1.heap.size wr) (Nat.le_refl _) ?_; intro v2 w2 hown2 hb2)
        go_ret
        obtain ⟨x, hx, hxe⟩ := HGAP.out
        unfold SetRes
        rw [hE.out, HALL.out, hx, scells_snoc, List.length_append, hxe]
        exact ⟨_, rfl, owns_base hown2 hsz1, hbw.trans (hb2.mono hsz1)⟩
      · have HGAP : Hid (lastOf at0 most = []) := by
          show lastOf at0 most = []
          unfold lastOf
          rw [dif_neg (by omega)]
        go_wp2
        go_ret
        unfold SetRes
        rw [hE.out, HALL.out, HGAP.out, List.append_nil]
        exact ⟨_, rfl, owns_base hown hsz1, hbw⟩

theorem lessP (L M : List SpanV) : theSet (fun x => hasB L x && hasB (theSet (notP 4294967295 M)) x) = theSet (fun x => hasB L x && !hasB M x) := by
  congr 1
  funext x
  have h := (notAll_ok (formOf_ok M).1 (most := 4294967295) (by omega)).2 x
  rw [theSet_not (by omega), h, notP_form]
  unfold notP
  cases hx : hasB L x with
  | false => rfl
  | true =>
    obtain ⟨s, _, h1, h2⟩ := hasB_iff.1 hx
    have := s.hlo
    have := s.hhi
    have e1 : 0 ≤ x := by omega
    have e2 : x ≤ 4294967295 := by omega
    simp [e1, e2]
theorem not_len {most : Int} (hm : 0 ≤ most ∧ most < 4294967296) (L : List SpanV) : (theSet (notP most L)).length ≤ L.length + 1 := by
  rw [theSet_not hm]
  unfold notAll
  have h1 := notTo_len most (formOf L) (formOf L).length
  have h2 := formOf_len L
  have h3 : (lastOf (natAt (formOf L)) most).length ≤ 1 := by unfold lastOf; split <;> simp
  rw [List.length_append]; omega

end Go.Proofs.YtmgeknghgngliaaDoor

/-
  The walks of the document's Form, Or, And, Less and Not, and of Concat and Or of the program.
-/
namespace Go.Proofs.YtmgeknghgngliaaDoor
open Go Go.RowKit Go.Lib Go.Sort

theorem hasB_range {L : List SpanV} {x : Int} (h : hasB L x = true) : 0 ≤ x ∧ x ≤ 4294967295 := by
  obtain ⟨s, _, h1, h2⟩ := hasB_iff.1 h
  have := s.hlo
  have := s.hhi
  omega
theorem soP_or (L M : List SpanV) : soP 1 4294967295 L M = fun x => hasB L x || hasB M x := by
  funext x
  have e : soP 1 4294967295 L M x = (decide (0 ≤ x) && decide (x ≤ 4294967295) && (hasB L x || hasB M x)) := rfl
  rw [e]
  cases h : (hasB L x || hasB M x) with
  | false => simp
  | true =>
    rcases Bool.or_eq_true_iff.1 h with h | h
    · have := hasB_range h; simp [this]
    · have := hasB_range h; simp [this]
theorem soP_and (L M : List SpanV) : soP 2 4294967295 L M = fun x => hasB L x && hasB M x := by
  funext x
  have e : soP 2 4294967295 L M x = (decide (0 ≤ x) && decide (x ≤ 4294967295) && (hasB L x && hasB M x)) := rfl
  rw [e]
  cases h : hasB L x with
  | false => simp
  | true => have := hasB_range h; simp [this]
theorem soP_less (L M : List SpanV) : soP 3 4294967295 L M = fun x => hasB L x && !hasB M x := by
  funext x
  have e : soP 3 4294967295 L M x = (decide (0 ≤ x) && decide (x ≤ 4294967295) && (hasB L x && !hasB M x)) := rfl
  rw [e]
  cases h : hasB L x with
  | false => simp
  | true => have := hasB_range h; simp [this]
theorem soP_not (most : Int) (L : List SpanV) : soP 4 most L [] = notP most L := rfl
theorem soP_form (L : List SpanV) : theSet (soP 1 4294967295 L []) = formOf L := by
  rw [soP_or]
  unfold formOf
  congr 1
  funext x
  rw [hasB_nil, Bool.or_false]
theorem rd_nil (w : World) (B k : Nat) : Rd w B k (.slice none 0 0) 0 [] := ⟨none, 0, rfl, by omega, by simp, fun h => absurd h (by omega)⟩

end Go.Proofs.YtmgeknghgngliaaDoor

/-
  Walks over the document's addresses: Read.
-/
namespace Go.Proofs.YtmgeknghgngliaaDoor
open Go Go.RowKit Go.Sort

/-- What Read hands back. -/
def rdV (l : List UInt8) (m : Nat) : Int := match readB l m with | some n => n | none => -1
theorem rdV_none {l : List UInt8} {m : Nat} (h : readB l m = none) : rdV l m = -1 := by unfold rdV; rw [h]
theorem rdV_some {l : List UInt8} {m n : Nat} (h : readB l m = some n) : rdV l m = n := by unfold rdV; rw [h]
theorem dec_long : ∀ (k n : Nat), k + 1 < (Lib.decDigits n).length → 10 ^ (k + 1) ≤ n
  | 0, n, h => by
    rcases (show n < 10 ∨ 10 ≤ n by omega) with h1 | h1
    · rw [decDigits_small h1] at h; simp at h
    · simpa using h1
  | k + 1, n, h => by
    rcases (show n < 10 ∨ 10 ≤ n by omega) with h1 | h1
    · rw [decDigits_small h1] at h; simp at h
    · rw [decDigits_big (by omega), List.length_append] at h
      have := dec_long k (n / 10) (by simp at h; omega)
      rw [Nat.pow_succ]; omega
theorem readB_long {l : List UInt8} {m : Nat} (hm : m < 1000000000000) (h : 12 < l.length) : readB l m = none := by
  cases e : readB l m with
  | none => rfl
  | some n =>
    obtain ⟨h1, h2⟩ := readB_some.1 e
    have := dec_long 11 n (by rw [h1]; omega)
    omega
theorem readB_zero {l : List UInt8} {m : Nat} (h : 1 < l.length) (h0 : l.head? = some 48) : readB l m = none := by unfold readB; rw [if_pos (Or.inr (Or.inl ⟨h, h0⟩))]
theorem readB_nil (m : Nat) : readB [] m = none := by unfold readB; rw [if_pos (Or.inl rfl)]
theorem readB_bad {l : List UInt8} {m : Nat} {i : Nat} {c : UInt8} (h : l[i]? = some c) (hc : isDig c = false) : readB l m = none := by
  unfold readB
  rw [if_pos (Or.inr (Or.inr ?_))]
  cases e : l.all isDig with
  | false => rfl
  | true => have := List.all_eq_true.1 e c (List.mem_of_getElem? h); rw [hc] at this; cases this
theorem readB_good {l : List UInt8} {m : Nat} (h0 : l ≠ []) (hz : ¬ (1 < l.length ∧ l.head? = some 48)) (hall : l.all isDig = true) : readB l m = if valD 0 l ≤ m then some (valD 0 l) else none := by
  unfold readB
  rw [if_neg]
  rintro (h | h | h)
  · exact h0 h
  · exact hz h
  · rw [hall] at h; cases h
theorem valD_take {l : List UInt8} {i : Nat} {c : UInt8} (h : l[i]? = some c) : valD 0 (l.take (i + 1)) = 10 * valD 0 (l.take i) + (c.toNat - 48) := by
  rw [List.take_add_one, h, valD_append]
  rfl
theorem valD_lt : ∀ (k : Nat) (l : List UInt8), l.length ≤ k → l.all isDig = true → valD 0 l < 10 ^ k := by
  intro k
  induction k with
  | zero => intro l hl _; obtain rfl := List.length_eq_zero_iff.1 (Nat.le_zero.1 hl); decide
  | succ k ih =>
    intro l hl hall
    by_cases hne : l = []
    · subst hne; exact Nat.pow_pos (by decide)
    · obtain ⟨r, c, rfl⟩ : ∃ r c, l = r ++ [c] := ⟨l.dropLast, l.getLast hne, (List.dropLast_concat_getLast hne).symm⟩
      rw [valD_append]
      simp at hl hall
      have := ih r hl (by simpa using hall.1)
      have hc := (of_dig c hall.2).2
      simp only [valD, List.foldl_cons, List.foldl_nil] at this ⊢
      rw [Nat.pow_succ]; omega

end Go.Proofs.YtmgeknghgngliaaDoor
