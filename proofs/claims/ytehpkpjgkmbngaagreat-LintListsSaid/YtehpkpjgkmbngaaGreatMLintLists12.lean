/-
  Joined texts: Sp12, Sp13, Sp14, SpMath5, SpMath6, PcR, Pc3, SpMath7, Addr3, Addr4, Addr5, Addr6.
-/
import Derived.Test.YtehpkpjgkmbngaaGreatMLintLists5
import Derived.Test.YtehpkpjgkmbngaaGreatMLintLists11
import Derived.Test.YtehpkpjgkmbngaaGreatShelf2
import Derived.Shelf.SlicesQ.IndexFunc
import Derived.Test.YtehpkpjgkmbngaaGreatShelf5
import Derived.Laws.AppendOwnNone
import Derived.Deep.CutBlock
import Derived.Deep.DeepCutAuto
import Derived.Test.YtehpkpjgkmbngaaGreatMLintLists3
import Derived.Deep.RegionHeld3
import Derived.StillTailTactics
import Derived.RegionTactic
import Derived.BigRegion
/-
  The walks of slices.Equal at spans, of the document's Spans, and of spans.Same.
-/
namespace Go.Proofs.YtehpkpjgkmbngaaGreat
open Go Go.RowKit Go.Lib Go.Sort

theorem spanEq_iff {s t : SpanV} : (s.lo = t.lo ∧ s.hi = t.hi) ↔ s = t := ⟨fun h => SpanV.eq h.1 h.2, fun h => by rw [h]; exact ⟨rfl, rfl⟩⟩
theorem list_eq_of {A B : List SpanV} (h : A.length = B.length) (h2 : ∀ (i : Nat) (s t : SpanV), A[i]? = some s → B[i]? = some t → s = t) : A = B := by
  apply List.ext_getElem? 
  intro i
  by_cases hi : i < A.length
  · have ha := List.getElem?_eq_getElem hi
    have hb := List.getElem?_eq_getElem (l := B) (i := i) (by omega)
    rw [ha, hb, h2 i _ _ ha hb]
  · rw [List.getElem?_eq_none (by omega), List.getElem?_eq_none (by omega)]
open Classical in
/-- Are two lists of spans the same? -/
noncomputable def eqB (A B : List SpanV) : Bool := decide (A = B)
open Classical in
theorem eqB_self (A : List SpanV) : eqB A A = true := by simp [eqB]
open Classical in
theorem eqB_ne {A B : List SpanV} (h : A ≠ B) : eqB A B = false := by simp [eqB, h]
/-- '!=' of two spans. -/
theorem neqSpan (a b c d : Int) (w : World) : (binOp .neq 78 (.agg #[.int .u32 a, .int .u32 b]) (.agg #[.int .u32 c, .int .u32 d])).run Tryz.prog w = .ok (.bool !((a == c) && (b == d))) w := by
  have hS : Tryz.prog.underlying 78 = some (.struct (Tryz.prog.fieldsOf 78)) := by kernel_rfl
  have hp : Tryz.prog.stoodInHeld 78 = false := by kernel_rfl
  have b1 := Tryz.underlying35
  have b2 := Tryz.isAgg35
  have b3 := Tryz.sizeOf35
  rw [run_neq_struct, show (10000 : Nat) = 9998 + 1 + 1 from rfl, run_equalIn_agg w (9998 + 1) 78 _ _ hS hp]
  generalize 9998 = dd
  simp only [Program.fieldsOf, Tryz.underlying78]
  go_simp
  by_cases h1 : a = c <;> by_cases h2 : b = d <;> simp [h1, h2]

end Go.Proofs.YtehpkpjgkmbngaaGreat

/-
  The walks of spans.Has, spans.Same, and of the law's large and awake.
-/
namespace Go.Proofs.YtehpkpjgkmbngaaGreat
open Go Go.RowKit Go.Lib Go.Sort

def largeB (L M : List SpanV) : Bool := decide (200 < L.length) || decide (200 < M.length)
/-- '==' of two spans. -/
theorem eqlSpan (a b c d : Int) (w : World) : (binOp .eql 78 (.agg #[.int .u32 a, .int .u32 b]) (.agg #[.int .u32 c, .int .u32 d])).run Tryz.prog w = .ok (.bool ((a == c) && (b == d))) w := by
  have hS : Tryz.prog.underlying 78 = some (.struct (Tryz.prog.fieldsOf 78)) := by kernel_rfl
  have hp : Tryz.prog.stoodInHeld 78 = false := by kernel_rfl
  have b1 := Tryz.underlying35
  have b2 := Tryz.isAgg35
  have b3 := Tryz.sizeOf35
  rw [run_eql_struct, show (10000 : Nat) = 9998 + 1 + 1 from rfl, run_equalIn_agg w (9998 + 1) 78 _ _ hS hp]
  generalize 9998 = dd
  simp only [Program.fieldsOf, Tryz.underlying78]
  go_simp
  by_cases h1 : a = c <;> by_cases h2 : b = d <;> simp [h1, h2]
theorem formOf_self {R : List SpanV} (h : NF R) : formOf R = R := theSet_eq h (fun _ => rfl)
def sp46 : SpanV := ⟨4, 6, by omega, by omega⟩
def sp13 : SpanV := ⟨1, 3, by omega, by omega⟩
def sp16 : SpanV := ⟨1, 6, by omega, by omega⟩
theorem form46 : formOf [sp46, sp13] = [sp16] := by
  refine theSet_eq ⟨by decide, fun t ht => by simp at ht, trivial⟩ (fun x => ?_)
  rw [Bool.eq_iff_iff]
  simp [hasB, SpanV.inB, sp46, sp13, sp16]
  omega
end Go.Proofs.YtehpkpjgkmbngaaGreat

/-
  The walks of slices.Concat at spans and of spans.Or.
-/
namespace Go.Proofs.YtehpkpjgkmbngaaGreat
open Go Go.RowKit Go.Lib Go.Sort

/-- A slice without an address is nil. -/
def NilOk (v : Value) : Prop := ∀ n c, v = .slice none n c → n = 0 ∧ c = 0
theorem NilOk.of_own {w : World} {base : Nat} {e : TypeId} {size n : Nat} {v : Value} {xs : List Value} (h : w.ownsRow base e size v n xs) : NilOk v := by
  intro n' c' hv
  rcases h.2 with ⟨rfl, h0⟩ | ⟨g, cap, cur, rfl, _⟩
  · injection hv with _ h1 h2
    omega
  · cases hv
theorem grow_any (n : Nat) (w : World) (hlen : n ≤ 1099511627776) :
    Calls Tryz.prog 83 #[.slice none 0 0, .int .i64 n] w fun e w' => ∃ v, e = .returned v ∧ w'.ownsRow w.heap.size 78 2 v 0 [] ∧ Below w.heap.size w w' := by
  obtain ⟨i0, hi, hz0, hz1, hz2⟩ := info_parts Tryz.infoSpan
  rcases Nat.eq_zero_or_pos n with rfl | hn
  · have h := Any8.slices_Grow_room Tryz.growSpan none 0 0 0 w (Nat.le_refl _) (by omega) (by omega) (by omega)
    refine Calls.mono (P := Tryz.prog) h ?_
    rintro e w' ⟨rfl, rfl⟩
    exact ⟨_, rfl, owns_nil _ _ _ _, Below.refl _ _⟩
  · have h := Any8.slices_Grow_grow Tryz.growSpan i0 _ hi hz0 (by omega) none 0 0 n [] w (Nat.le_refl _) (by omega) (by rw [hz2]; omega) (by omega) (by simp) (fun _ => rfl) (fun a ha => by cases ha)
    refine Calls.mono (P := Tryz.prog) h ?_
    have hge := grownCap_ge w (0 + n) 0 (Tryz.growSpan_ren.t 25)
    have hle := grownCap_le_maxLen w (0 + n) 0 (Tryz.growSpan_ren.t 25) (by unfold maxLen; omega)
    rintro e w' ⟨rfl, rfl⟩
    refine ⟨_, rfl, owns_of_block (c := grownCap w (0 + n) 0 (Tryz.growSpan_ren.t 25)) (blk1 w.drew _) (Nat.zero_le _) hle ?_ (by simp) (by simp) (Nat.le_refl _), (below_drew1 (Below.refl _ _)).alloc (by show w.heap.size ≤ w.heap.size; omega) _⟩
    generalize grownCap w (0 + n) 0 (Tryz.growSpan_ren.t 25) = G at *
    rw [Array.size_append, Array.size_append, size_zeroCells, size_zeroCells, show (Value.agg #[.int .u32 0, .int .u32 0]).cells.size = 2 from rfl]
    simp
    omega
theorem allS_le (S : List SetV) (j : Nat) : (allS (S.take j)).length ≤ (allS S).length := by
  have e : allS S = allS (S.take j) ++ allS (S.drop j) := by unfold allS; rw [← List.flatMap_append, List.take_append_drop]
  rw [e, List.length_append]; omega

set_option maxRecDepth 100000 in
set_option maxHeartbeats 4000000 in
theorem concat_any (S : List SetV) (vs : Value) (w : World) (hS : SetsAt w w.heap.size vs S) (hnil : ∀ x ∈ S, NilOk x.v) (hlen : (allS S).length ≤ 1073741824) (hlen2 : S.length ≤ 1099511627776) :
    Calls Tryz.prog 51 #[vs] w (SetRes (allS S) w) := by
  obtain ⟨i0, hi, hz0, hz1, hz2⟩ := info_parts Tryz.infoSpan
  obtain ⟨A0, c0, rfl, hc0⟩ := hS.1.form
  have hv0 : ∀ W, Below w.heap.size w W → ∀ j x, S[j]? = some x → ∃ b off, A0 = some ⟨b, off, none⟩ ∧ W.cell? ⟨b, off + j, none⟩ = some x.v := by
    intro W hW j x hx
    have hj := (List.getElem?_eq_some_iff.1 hx).1
    obtain ⟨b, off, c', hv, _, _, hcell⟩ := (hS.1.below hW).pos (by omega)
    injection hv with hv1 _ _
    exact ⟨b, off, hv1, hcell j _ (by simp [svals, hx])⟩
  have HV0 := Lib.hid hv0
  have HS := Lib.hid hS
  have HN := Lib.hid hnil
  have HLE := Lib.hid (allS_le S)
  clear hv0 hS hnil
  go_enter Tryz.func51, Tryz.ntmps51
  go_upto_block 0 with fail
  go_cut [3] (fun s3 wx => wx = w ∧ s3 = .int .i64 ((allS S).length : Nat))
  case first =>
    go_wp2_with fail
    go_loop [3, 11] (fun n i => ∃ j : Nat, i = .int .i64 j ∧ j ≤ S.length ∧ n = .int .i64 ((allS (S.take j)).length : Nat)) (fun _ i => S.length - (intOf i).toNat)
    case atStart => exact ⟨0, rfl, by omega, rfl⟩
    case round =>
      obtain ⟨j, rfl, hj, rfl⟩ := hrel
      by_cases hlt : j < S.length
      · have hI : (j : Int) < (S.length : Int) := by omega
        obtain ⟨x, hx⟩ : ∃ x, S[j]? = some x := ⟨_, List.getElem?_eq_getElem hlt⟩
        obtain ⟨b, off, rfl, g0⟩ := HV0.out w (Below.refl _ _) j x hx
        have hxr := HS.out.2 x (List.mem_of_getElem? hx)
        obtain ⟨Ax, cx, hxv, hcx⟩ := hxr.form
        rw [hxv] at g0
        have hst : (allS (S.take (j + 1))).length = (allS (S.take j)).length + x.L.length := by rw [allS_succ hx, List.length_append]
        have hle := HLE.out (j + 1)
        rw [hst] at hle
        have HST := Lib.hid hst
        clear hst hx hxr hxv
        generalize (allS (S.take j)).length = n0 at *
        have hneg : ¬ ((n0 : Int) + (x.L.length : Int) < 0) := by omega
        go_wp2
        exact ⟨⟨j + 1, by go_num, by omega, by rw [HST.out]; go_num⟩, by simp only [intOf]; omega⟩
      · obtain rfl : j = S.length := by omega
        rw [List.take_length]
        go_wp2
        go_meet
        exact ⟨rfl, rfl⟩
  case rest =>
    obtain ⟨rfl, rfl⟩ := hcut
    go_wp2_with fail
    refine (grow_any (allS S).length wc (by omega)).mono ?_
    rintro e w1 ⟨v1, rfl, hown1, hb1⟩
    go_wp2_with fail
    go_loopw [6, 27] (fun v i wr => ∃ j : Nat, i = .int .i64 j ∧ j ≤ S.length ∧ wr.ownsRow wc.heap.size 78 2 v (allS (S.take j)).length (scells (allS (S.take j))) ∧ Below wc.heap.size wc wr) (fun _ i _ => S.length - (intOf i).toNat)
    case atStart => exact ⟨0, rfl, by omega, hown1, hb1⟩
    case round =>
      clear hown1 hb1
      obtain ⟨j, rfl, hj, hown, hnx⟩ := hrel
      have hsz := hnx.size
      by_cases hlt : j < S.length
      · have hI : (j : Int) < (S.length : Int) := by omega
        obtain ⟨x, hx⟩ : ∃ x, S[j]? = some x := ⟨_, List.getElem?_eq_getElem hlt⟩
        obtain ⟨b, off, rfl, g0⟩ := HV0.out wr hnx j x hx
        have hxm := List.mem_of_getElem? hx
        have hxr := (HS.out.2 x hxm).below hnx
        obtain ⟨Ax, cx, hxv, hcx⟩ := hxr.form
        have hxn := HN.out x hxm
        rw [hxv] at g0 hxr hxn
        have HST := Lib.hid (allS_succ hx)
        have hle := HLE.out (j + 1)
        rw [HST.out, List.length_append] at hle
        clear hx hxv hxm
        generalize allS (S.take j) = T at *
        rcases Ax with _ | ad
        · obtain ⟨h0, rfl⟩ := hxn _ _ rfl
          have hL0 : x.L = [] := List.eq_nil_of_length_eq_zero h0
          rw [h0] at g0
          have HL0 := Lib.hid hL0
          clear hxr hxn h0 hL0
          go_wp2_with (at_builtin; refine wpList_append_own_none rfl _ _ 81 rfl wc.heap.size 78 i0 2 Tryz.underlying81 hi u6 _ _ rfl hown rfl ?_)
          refine ⟨⟨j + 1, by go_num, by omega, ?_, hnx⟩, by simp only [intOf]; omega⟩
          rw [HST.out, HL0.out, List.append_nil]
          exact hown
        · have hsrc : ∀ (k : Nat) (u : Value), (scells x.L)[k]? = some u → wr.cell? (ad.add k) = some u := by
            intro k u hu
            have hk := (List.getElem?_eq_some_iff.1 hu).1
            rw [scells_len] at hk
            obtain ⟨b2, o2, c2, hv, _, _, hcell⟩ := hxr.pos (by omega)
            injection hv with hv _ _
            injection hv with hv
            subst hv
            have e : (⟨b2, o2, none⟩ : Addr).add k = ⟨b2, o2 + k, none⟩ := by simp [Addr.add]
            rw [e]; exact hcell k u hu
          have HSRC := Lib.hid hsrc
          clear hsrc hxr hxn
          go_wp2_with (at_builtin; refine wpList_append_own _ rfl _ _ 81 rfl wc.heap.size 78 i0 _ 2 8 Tryz.underlying81 hi hz0 hz1 hz2 rfl (by decide) u6 _ _ rfl hown ad x.L.length cx (scells x.L) rfl (scells_len _) HSRC.out (scells_one _) (by unfold maxLen; omega) (by omega) hsz ?_; intro v2 w2 hown2 hgr _)
          refine ⟨⟨j + 1, by go_num, by omega, ?_, below_row hnx hown hgr hsz (Nat.le_refl _)⟩, by simp only [intOf]; omega⟩
          rw [HST.out, List.length_append, scells_append]
          exact hown2
      · obtain rfl : j = S.length := by omega
        rw [List.take_length] at hown
        go_wp2
        go_ret
        exact ⟨_, rfl, hown, hnx⟩

theorem theSet_or (L M : List SpanV) : theSet (fun x => hasB L x || hasB M x) = formOf (L ++ M) := theSet_form (fun x => hasB_append L M x)
set_option maxRecDepth 100000 in
set_option maxHeartbeats 4000000 in
theorem or_any (L M : List SpanV) (vl vm : Value) (w : World) (hl : Rd w w.heap.size 2 vl L.length (scells L)) (hm : Rd w w.heap.size 2 vm M.length (scells M)) (hnl : NilOk vl) (hnm : NilOk vm) (hlen : L.length ≤ 268435456) (hlen2 : M.length ≤ 268435456) :
    Calls Tryz.prog 19 #[vl, vm] w (SetRes (theSet (fun x => hasB L x || hasB M x)) w) := by
  obtain ⟨Al, cl, rfl, _⟩ := hl.form
  obtain ⟨Am, cm, rfl, _⟩ := hm.form
  have hA : allS [⟨.slice Al L.length cl, L⟩, ⟨.slice Am M.length cm, M⟩] = L ++ M := by simp [allS]
  have hsets : SetsAt (w.alloc (.cells #[.slice Al L.length cl, .slice Am M.length cm] 81)) (w.alloc (.cells #[.slice Al L.length cl, .slice Am M.length cm] 81)).heap.size (.slice (some ⟨w.heap.size, 0, none⟩) 2 2) [⟨.slice Al L.length cl, L⟩, ⟨.slice Am M.length cm, M⟩] := by
    refine ⟨Rd.of_blk (cs := #[.slice Al L.length cl, .slice Am M.length cm]) (blk1 w _) (by decide) rfl, fun x hx => ?_⟩
    simp at hx
    rcases hx with rfl | rfl
    · exact (hl.below (below1 w _)).mono (by simp)
    · exact (hm.below (below1 w _)).mono (by simp)
  have hcon := concat_any [⟨.slice Al L.length cl, L⟩, ⟨.slice Am M.length cm, M⟩] _ _ hsets (fun x hx => by
    simp at hx
    rcases hx with rfl | rfl
    · exact hnl
    · exact hnm) (by rw [hA, List.length_append]; omega) (by simp)
  rw [hA] at hcon
  have HC := Lib.hid hcon
  have HB := Lib.hid (below1 w (.cells #[.slice Al L.length cl, .slice Am M.length cm] 81))
  have HE := Lib.hid (theSet_or L M)
  have hlm : (L ++ M).length ≤ 1099511627776 := by rw [List.length_append]; omega
  clear hcon hsets hl hm hnl hnm
  go_enter Tryz.func19, Tryz.ntmps19
  go_wp2_with fail
  refine HC.out.mono ?_
  rintro e w1 ⟨v1, rfl, hown1, hb1⟩
  have hr1 := Rd.of_own hown1
  have hbw := below_call HB.out hb1
  clear hown1
  go_wp2_with fail
  refine (form_any _ v1 w1 hr1 hlm).mono ?_
  rintro e w2 ⟨v2, rfl, hown2, hb2⟩
  have hbw2 := below_call hbw hb2
  have hsz := hbw.size
  go_wp2
  go_ret
  unfold SetRes
  rw [HE.out]
  exact ⟨_, rfl, owns_base hown2 hsz, hbw2⟩

end Go.Proofs.YtehpkpjgkmbngaaGreat

/-
  Numbers cut where sets begin or end: the starts, the pieces. No program in sight.
-/
namespace Go.Proofs.YtehpkpjgkmbngaaGreat

theorem rising_ext : ∀ {A B : List Int}, Rising A → Rising B → (∀ x, x ∈ A ↔ x ∈ B) → A = B
  | [], [], _, _, _ => rfl
  | [], b :: q, _, _, h => by have := (h b).2 (List.mem_cons_self ..); simp at this
  | a :: r, [], _, _, h => by have := (h a).1 (List.mem_cons_self ..); simp at this
  | a :: r, b :: q, hA, hB, h => by
    have hA' := List.pairwise_cons.1 hA
    have hB' := List.pairwise_cons.1 hB
    have hab : a = b := by
      rcases List.mem_cons.1 ((h a).1 (List.mem_cons_self ..)) with h1 | h1
      · exact h1
      · rcases List.mem_cons.1 ((h b).2 (List.mem_cons_self ..)) with h2 | h2
        · exact h2.symm
        · have := hB'.1 a h1; have := hA'.1 b h2; omega
    subst hab
    congr 1
    refine rising_ext hA'.2 hB'.2 fun x => ?_
    constructor
    · intro hx
      rcases List.mem_cons.1 ((h x).1 (List.mem_cons_of_mem _ hx)) with rfl | h2
      · have := hA'.1 x hx; omega
      · exact h2
    · intro hx
      rcases List.mem_cons.1 ((h x).2 (List.mem_cons_of_mem _ hx)) with rfl | h2
      · have := hB'.1 x hx; omega
      · exact h2

/-- In some set the number's membership is not the one of the number before it. -/
def turnB (T : List (List SpanV)) (x : Int) : Bool := T.any fun L => hasB L x != hasB L (x - 1)
def StartsOf (most : Int) (T : List (List SpanV)) (C : List Int) : Prop := Rising C ∧ ∀ x, x ∈ C ↔ 0 < x ∧ x ≤ most ∧ turnB T x = true
theorem StartsOf.unique {most : Int} {T : List (List SpanV)} {A B : List Int} (hA : StartsOf most T A) (hB : StartsOf most T B) : A = B :=
  rising_ext hA.1 hB.1 fun x => (hA.2 x).trans (hB.2 x).symm
theorem nf_apart : ∀ {r : List SpanV}, NF r → ∀ {u s : SpanV}, u ∈ r → s ∈ r → u = s ∨ u.hi + 1 < s.lo ∨ s.hi + 1 < u.lo
  | [], _, _, _, hu, _ => by simp at hu
  | t :: q, h, u, s, hu, hs => by
    rcases List.mem_cons.1 hs with hst | hsq
    · rcases List.mem_cons.1 hu with hut | huq
      · exact .inl (hut.trans hst.symm)
      · subst hst; exact .inr (.inr (h.2.1 u huq))
    · rcases List.mem_cons.1 hu with hut | huq
      · subst hut; exact .inr (.inl (h.2.1 s hsq))
      · exact nf_apart h.2.2 huq hsq
theorem nf_at {A : List SpanV} (h : NF A) {s : SpanV} (hs : s ∈ A) : hasB A (s.lo - 1) = false ∧ hasB A (s.hi + 1) = false := by
  have hsok := h.ok s hs
  constructor
  · rw [Bool.eq_false_iff]
    intro hh
    obtain ⟨u, hu, h1, h2⟩ := hasB_iff.1 hh
    have := h.ok u hu
    rcases nf_apart h hu hs with rfl | h3 | h3 <;> omega
  · rw [Bool.eq_false_iff]
    intro hh
    obtain ⟨u, hu, h1, h2⟩ := hasB_iff.1 hh
    have := h.ok u hu
    rcases nf_apart h hu hs with rfl | h3 | h3 <;> omega
theorem nf_turn {A : List SpanV} (h : NF A) (x : Int) : hasB A x ≠ hasB A (x - 1) ↔ ∃ s ∈ A, x = s.lo ∨ x = s.hi + 1 := by
  constructor
  · intro hne
    by_cases h1 : hasB A x = true
    · obtain ⟨s, hs, h2, h3⟩ := hasB_iff.1 h1
      by_cases hx : x = s.lo
      · exact ⟨s, hs, .inl hx⟩
      · exact absurd (h1.trans (hasB_iff.2 ⟨s, hs, by omega, by omega⟩).symm) hne
    · have h1' : hasB A x = false := by simpa using h1
      have h0 : hasB A (x - 1) = true := by
        cases hh : hasB A (x - 1) with
        | true => rfl
        | false => exact absurd (h1'.trans hh.symm) hne
      obtain ⟨s, hs, h2, h3⟩ := hasB_iff.1 h0
      by_cases hx : x = s.hi + 1
      · exact ⟨s, hs, .inr hx⟩
      · exact absurd (hasB_iff.2 ⟨s, hs, by omega, by omega⟩) h1
  · rintro ⟨s, hs, hx⟩
    have hok := h.ok s hs
    obtain ⟨i1, i2⟩ := nf_at h hs
    rcases hx with rfl | rfl
    · rw [i1, hasB_iff.2 ⟨s, hs, Int.le_refl _, hok⟩]; simp
    · rw [i2, show s.hi + 1 - 1 = s.hi by omega, hasB_iff.2 ⟨s, hs, hok, Int.le_refl _⟩]; simp

/-- The list behind a number that may be a cut. -/
def noted (most : Int) (L : List Int) (x : Int) : List Int := if 0 < x ∧ x ≤ most then L ++ [x] else L
theorem noted_mem (most : Int) (L : List Int) (x y : Int) : y ∈ noted most L x ↔ y ∈ L ∨ (y = x ∧ 0 < y ∧ y ≤ most) := by
  unfold noted
  split
  · rw [List.mem_append, List.mem_singleton]
    constructor
    · rintro (h | rfl)
      · exact .inl h
      · exact .inr ⟨rfl, by assumption⟩
    · rintro (h | ⟨h, _⟩)
      · exact .inl h
      · exact .inr h
  · constructor
    · exact .inl
    · rintro (h | ⟨rfl, h⟩)
      · exact h
      · exact absurd h (by assumption)
theorem noted_len (most : Int) (L : List Int) (x : Int) : (noted most L x).length ≤ L.length + 1 := by
  unfold noted; split <;> simp
/-- The numbers noted of spans. -/
def Noted (most : Int) (S : List SpanV) (D : List Int) : Prop := (∀ x, x ∈ D ↔ ∃ s ∈ S, (x = s.lo ∨ x = s.hi + 1) ∧ 0 < x ∧ x ≤ most) ∧ D.length ≤ 2 * S.length
theorem Noted.nil (most : Int) : Noted most [] [] := ⟨fun x => by simp, by simp⟩
theorem Noted.snoc {most : Int} {S : List SpanV} {D : List Int} (h : Noted most S D) (s : SpanV) : Noted most (S ++ [s]) (noted most (noted most D s.lo) (s.hi + 1)) := by
  refine ⟨fun x => ?_, ?_⟩
  · rw [noted_mem, noted_mem, h.1]
    constructor
    · rintro ((⟨t, ht, hh⟩ | ⟨rfl, hh⟩) | ⟨rfl, hh⟩)
      · exact ⟨t, List.mem_append_left _ ht, hh⟩
      · exact ⟨s, List.mem_append_right _ (List.mem_singleton.2 rfl), .inl rfl, hh⟩
      · exact ⟨s, List.mem_append_right _ (List.mem_singleton.2 rfl), .inr rfl, hh⟩
    · rintro ⟨t, ht, ho, hh⟩
      rcases List.mem_append.1 ht with ht | ht
      · exact .inl (.inl ⟨t, ht, ho, hh⟩)
      · obtain rfl := List.mem_singleton.1 ht
        rcases ho with rfl | rfl
        · exact .inl (.inr ⟨rfl, hh⟩)
        · exact .inr ⟨rfl, hh⟩
  · have := noted_len most D s.lo
    have := noted_len most (noted most D s.lo) (s.hi + 1)
    have := h.2
    simp only [List.length_append, List.length_singleton]
    omega
theorem Noted.starts {most : Int} {T : List (List SpanV)} {D C : List Int} (h : Noted most (T.flatMap formOf) D) (hr : Rising C) (hm : ∀ x, x ∈ C ↔ x ∈ D) : StartsOf most T C := by
  refine ⟨hr, fun x => ?_⟩
  rw [hm, h.1]
  unfold turnB
  rw [List.any_eq_true]
  constructor
  · rintro ⟨s, hs, ho, h1, h2⟩
    obtain ⟨L, hL, hsL⟩ := List.mem_flatMap.1 hs
    refine ⟨h1, h2, L, hL, ?_⟩
    have := (nf_turn (formOf_ok L).1 x).2 ⟨s, hsL, ho⟩
    rw [(formOf_ok L).2, (formOf_ok L).2] at this
    simpa [bne] using this
  · rintro ⟨h1, h2, L, hL, hh⟩
    have hne : hasB L x ≠ hasB L (x - 1) := by simpa [bne] using hh
    rw [← (formOf_ok L).2, ← (formOf_ok L).2 (x - 1)] at hne
    obtain ⟨s, hs, ho⟩ := (nf_turn (formOf_ok L).1 x).1 hne
    exact ⟨s, List.mem_flatMap.2 ⟨L, hL, hs⟩, ho, h1, h2⟩
/-- A number at which a set turns is the mark of one of its spans. -/
theorem turn_mark {L : List SpanV} {x : Int} (h : hasB L x ≠ hasB L (x - 1)) : ∃ s ∈ L, s.lo ≤ s.hi ∧ (x = s.lo ∨ x = s.hi + 1) := by
  by_cases h1 : hasB L x = true
  · obtain ⟨s, hs, h2, h3⟩ := hasB_iff.1 h1
    refine ⟨s, hs, by omega, ?_⟩
    by_cases hx : x = s.lo
    · exact .inl hx
    · exact absurd (h1.trans (hasB_iff.2 ⟨s, hs, by omega, by omega⟩).symm) h
  · have h1' : hasB L x = false := by simpa using h1
    have h0 : hasB L (x - 1) = true := by
      cases hh : hasB L (x - 1) with
      | true => rfl
      | false => exact absurd (h1'.trans hh.symm) h
    obtain ⟨s, hs, h2, h3⟩ := hasB_iff.1 h0
    refine ⟨s, hs, by omega, ?_⟩
    by_cases hx : x = s.hi + 1
    · exact .inr hx
    · exact absurd (hasB_iff.2 ⟨s, hs, by omega, by omega⟩) h1
/-- The document's starts: the cuts at which a set turns. -/
theorem CutsOf.starts {most : Int} {T : List (List SpanV)} {r : List Int} (h : CutsOf most T.flatten (0 :: r)) : StartsOf most T (r.filter (turnB T)) := by
  have hr := List.pairwise_cons.1 h.1
  refine ⟨hr.2.filter _, fun x => ?_⟩
  rw [List.mem_filter]
  constructor
  · rintro ⟨hx, ht⟩
    have h0 := hr.1 x hx
    refine ⟨h0, ?_, ht⟩
    rcases (h.2.2 x).1 (List.mem_cons_of_mem _ hx) with rfl | ⟨s, _, hs⟩
    · omega
    · exact hs.2.2
  · rintro ⟨h0, hm, ht⟩
    refine ⟨?_, ht⟩
    unfold turnB at ht
    obtain ⟨L, hL, hh⟩ := List.any_eq_true.1 ht
    obtain ⟨s, hs, hok, ho⟩ := turn_mark (L := L) (x := x) (by simpa [bne] using hh)
    have hx : x ∈ 0 :: r := (h.2.2 x).2 (.inr ⟨s, List.mem_flatten.2 ⟨L, hL, hs⟩, hok, ho, hm⟩)
    rcases List.mem_cons.1 hx with rfl | hx
    · omega
    · exact hx

/-- A span of two numbers. -/
def spanAt (a b : Int) : SpanV := ⟨a % 4294967296, b % 4294967296, by omega, by omega⟩
/-- The finished pieces, and where the last begins. -/
def pin (a : Int) : List Int → List SpanV
  | [] => []
  | x :: r => spanAt a (x - 1) :: pin x r
def plast (a : Int) : List Int → Int
  | [] => a
  | x :: r => plast x r
def pcs (most a : Int) (C : List Int) : List SpanV := pin a C ++ [spanAt (plast a C) most]
theorem pin_snoc (C : List Int) (x : Int) : ∀ a, pin a (C ++ [x]) = pin a C ++ [spanAt (plast a C) (x - 1)] := by
  induction C with
  | nil => intro a; rfl
  | cons y r ih => intro a; show _ :: pin y (r ++ [x]) = _ :: (pin y r ++ _); rw [ih]; rfl
theorem plast_snoc (C : List Int) (x : Int) : ∀ a, plast a (C ++ [x]) = x := by
  induction C with
  | nil => intro a; rfl
  | cons y r ih => intro a; exact ih y
theorem pin_len (C : List Int) : ∀ a, (pin a C).length = C.length := by
  induction C with
  | nil => intro a; rfl
  | cons y r ih => intro a; show (pin y r).length + 1 = r.length + 1; rw [ih]
theorem pcs_len (most a : Int) (C : List Int) : (pcs most a C).length = C.length + 1 := by simp [pcs, pin_len]
theorem pcs_snoc (most a : Int) (C : List Int) (x : Int) : pcs most a (C ++ [x]) = pin a C ++ [spanAt (plast a C) (x - 1)] ++ [spanAt x most] := by rw [pcs, pin_snoc, plast_snoc]
theorem plast_le {C : List Int} : ∀ {a : Int}, Rising (a :: C) → a ≤ plast a C := by
  induction C with
  | nil => intro a _; exact Int.le_refl _
  | cons y r ih =>
    intro a h
    have h' := List.pairwise_cons.1 h
    have := h'.1 y (List.mem_cons_self ..)
    have := ih h'.2
    show a ≤ plast y r
    omega
theorem plast_mem {C : List Int} : ∀ {a : Int}, plast a C = a ∨ plast a C ∈ C := by
  induction C with
  | nil => intro a; exact .inl rfl
  | cons y r ih =>
    intro a
    rcases ih (a := y) with h | h
    · exact .inr (by show plast y r ∈ _; rw [h]; exact List.mem_cons_self ..)
    · exact .inr (List.mem_cons_of_mem _ h)
end Go.Proofs.YtehpkpjgkmbngaaGreat

/-
  The pieces one by one: where each begins and ends, what is alike in it. No program in sight.
-/
namespace Go.Proofs.YtehpkpjgkmbngaaGreat

theorem pcs_cons (most a x : Int) (r : List Int) : pcs most a (x :: r) = spanAt a (x - 1) :: pcs most x r := rfl
/-- Where the i-th piece begins, and where the next begins. -/
def pbeg (a : Int) (C : List Int) (i : Nat) : Int := (a :: C).getD i 0
def pend (most : Int) (C : List Int) (i : Nat) : Int := (C ++ [most + 1]).getD i 0 - 1
theorem pcs_get (most : Int) : ∀ (C : List Int) (a : Int) (i : Nat), i < C.length + 1 → (pcs most a C)[i]? = some (spanAt (pbeg a C i) (pend most C i))
  | [], a, i, h => by
    obtain rfl : i = 0 := by simpa using h
    show some (spanAt a most) = some (spanAt a (most + 1 - 1))
    rw [show most + 1 - 1 = most by omega]
  | x :: r, a, 0, _ => rfl
  | x :: r, a, i + 1, h => by
    rw [pcs_cons, List.getElem?_cons_succ, pcs_get most r x i (by simpa using h)]
    rfl
theorem pbeg_succ (a : Int) (C : List Int) {i : Nat} (most : Int) (h : i < C.length) : pbeg a C (i + 1) = pend most C i + 1 := by
  unfold pbeg pend
  simp only [List.getD_eq_getElem?_getD, List.getElem?_cons_succ]
  rw [List.getElem?_append_left h]
  omega
theorem pend_last (most : Int) (C : List Int) : pend most C C.length = most := by
  unfold pend
  simp only [List.getD_eq_getElem?_getD]
  rw [List.getElem?_append_right (Nat.le_refl _), Nat.sub_self]
  show most + 1 - 1 = most
  omega
theorem pbeg_mem (a : Int) {C : List Int} {i : Nat} (h : i < C.length) : pbeg a C (i + 1) ∈ C := by
  unfold pbeg
  simp only [List.getD_eq_getElem?_getD, List.getElem?_cons_succ, List.getElem?_eq_getElem h]
  exact List.getElem_mem h
theorem StartsOf.bounds {most : Int} (hm : 0 ≤ most) {T : List (List SpanV)} {C : List Int} (h : StartsOf most T C) {i : Nat} (hi : i < C.length + 1) :
    0 ≤ pbeg 0 C i ∧ pbeg 0 C i ≤ pend most C i ∧ pend most C i ≤ most ∧ (∀ y ∈ C, ¬ (pbeg 0 C i < y ∧ y ≤ pend most C i)) := by
  have hb : ∀ j, j < C.length → 0 < pbeg 0 C (j + 1) ∧ pbeg 0 C (j + 1) ≤ most := fun j hj => by
    have := (h.2 _).1 (pbeg_mem 0 hj)
    exact ⟨this.1, this.2.1⟩
  have h0 : 0 ≤ pbeg 0 C i := by
    cases i with
    | zero => exact Int.le_refl _
    | succ j => have := hb j (by omega); omega
  have hget : ∀ j (hj : j < C.length), pbeg 0 C (j + 1) = C[j] := fun j hj => by
    unfold pbeg
    simp only [List.getD_eq_getElem?_getD, List.getElem?_cons_succ, List.getElem?_eq_getElem hj]
    rfl
  rcases Nat.lt_or_ge i C.length with hlt | hge
  · have e := pbeg_succ 0 C most hlt
    have hn := hget i hlt
    have hb1 := hb i hlt
    have hlo : pbeg 0 C i < C[i] := by
      cases i with
      | zero => show (0 : Int) < _; rw [← hn]; exact hb1.1
      | succ j =>
        rw [hget j (by omega)]
        exact List.pairwise_iff_getElem.1 h.1 j (j + 1) (by omega) hlt (by omega)
    refine ⟨h0, by omega, by omega, fun y hy hh => ?_⟩
    obtain ⟨k, hk, rfl⟩ := List.getElem_of_mem hy
    have hki : k < i := by
      rcases Nat.lt_or_ge k i with hk2 | hk2
      · exact hk2
      · rcases Nat.eq_or_lt_of_le hk2 with rfl | hk3
        · omega
        · have := List.pairwise_iff_getElem.1 h.1 i k hlt hk hk3; omega
    cases i with
    | zero => omega
    | succ j =>
      rw [hget j (by omega)] at hh
      rcases Nat.eq_or_lt_of_le (show k ≤ j by omega) with rfl | hkj
      · omega
      · have := List.pairwise_iff_getElem.1 h.1 k j hk (by omega) hkj; omega
  · obtain rfl : i = C.length := by omega
    rw [pend_last]
    refine ⟨h0, ?_, Int.le_refl _, fun y hy hh => ?_⟩
    · cases hC : C.length with
      | zero => rw [show pbeg 0 C 0 = 0 from rfl]; exact hm
      | succ j => have := hb j (by omega); omega
    · obtain ⟨k, hk, rfl⟩ := List.getElem_of_mem hy
      cases hC : C.length with
      | zero => omega
      | succ j =>
        rw [hC, hget j (by omega)] at hh
        rcases Nat.eq_or_lt_of_le (show k ≤ j by omega) with rfl | hkj
        · omega
        · have := List.pairwise_iff_getElem.1 h.1 k j hk (by omega) hkj; omega
theorem same_upto {most : Int} {T : List (List SpanV)} {C : List Int} (h : StartsOf most T C) {L : List SpanV} (hL : L ∈ T) {l : Int} (hl : 0 ≤ l) :
    ∀ n : Nat, l + n ≤ most → (∀ y ∈ C, ¬ (l < y ∧ y ≤ l + n)) → hasB L (l + n) = hasB L l
  | 0, _, _ => by rw [show l + ((0 : Nat) : Int) = l by omega]
  | n + 1, hm, hC => by
    rw [← same_upto h hL hl n (by omega) (fun y hy hh => hC y hy (by omega))]
    by_cases he : hasB L (l + ((n + 1 : Nat) : Int)) = hasB L (l + n)
    · exact he
    · exfalso
      refine hC _ ((h.2 _).2 ⟨?_, hm, ?_⟩) ⟨?_, Int.le_refl _⟩
      · omega
      · refine List.any_eq_true.2 ⟨L, hL, ?_⟩
        rw [show l + ((n + 1 : Nat) : Int) - 1 = l + n by omega]
        simpa [bne] using he
      · omega
/-- Of one piece all numbers are in the same sets. -/
theorem StartsOf.alike {most : Int} (hm : 0 ≤ most) {T : List (List SpanV)} {C : List Int} (h : StartsOf most T C) {i : Nat} (hi : i < C.length + 1) {L : List SpanV} (hL : L ∈ T) {x : Int} (h1 : pbeg 0 C i ≤ x) (h2 : x ≤ pend most C i) :
    hasB L x = hasB L (pbeg 0 C i) := by
  obtain ⟨b0, b1, b2, b3⟩ := h.bounds hm hi
  obtain ⟨n, hn⟩ : ∃ n : Nat, x = pbeg 0 C i + n := ⟨(x - pbeg 0 C i).toNat, by omega⟩
  subst hn
  exact same_upto h hL b0 n (by omega) (fun y hy hh => b3 y hy (by omega))
/-- Where a piece begins that is not the first, some set turns. -/
theorem StartsOf.turned {most : Int} {T : List (List SpanV)} {C : List Int} (h : StartsOf most T C) {i : Nat} (hi : i < C.length) : turnB T (pbeg 0 C (i + 1)) = true :=
  ((h.2 _).1 (pbeg_mem 0 hi)).2.2
/-- The numbers of the pieces are those up to the greatest. -/
theorem StartsOf.count {most : Int} {C : List Int} : ∀ k, k ≤ C.length → ((List.range (k + 1)).map fun i => pend most C i - pbeg 0 C i + 1).sum = pend most C k + 1
  | 0, _ => by
    show pend most C 0 - pbeg 0 C 0 + 1 + 0 = _
    rw [show pbeg 0 C 0 = 0 from rfl]
    omega
  | k + 1, h => by
    rw [List.range_succ, List.map_append, List.sum_append, StartsOf.count k (by omega)]
    have := pbeg_succ 0 C most (show k < C.length by omega)
    show _ + (pend most C (k + 1) - pbeg 0 C (k + 1) + 1 + 0) = _
    omega
end Go.Proofs.YtehpkpjgkmbngaaGreat

/-
  What Pieces hands back: the pieces between the starts.
-/
namespace Go.Proofs.YtehpkpjgkmbngaaGreat
open Go Go.RowKit Go.Lib Go.Sort

/-- The sets' lists. -/
def setsL (S : List SetV) : List (List SpanV) := S.map (·.L)
theorem pcs_zero {most : Int} (hm : 0 ≤ most ∧ most < 4294967296) : scells (pcs most 0 []) = [.int .u32 0, .int .u32 most] := by
  show [Value.int .u32 (0 % 4294967296), .int .u32 (most % 4294967296)] = _
  rw [Int.emod_eq_of_lt hm.1 hm.2]
  rfl
theorem pcs_step {most : Int} {C : List Int} {k : Nat} {x : Int} (hx : C[k]? = some x) (h0 : 0 < x) (h1 : x ≤ most) (hm : most < 4294967296) :
    ∃ (A : List SpanV) (t y : SpanV), A.length = k ∧ pcs most 0 (C.take k) = A ++ [t] ∧ y.lo = t.lo ∧ y.hi = x - 1 ∧ pcs most 0 (C.take (k + 1)) = A ++ [y] ++ [⟨x, most, by omega, by omega⟩] := by
  have hk : k < C.length := (List.getElem?_eq_some_iff.1 hx).1
  refine ⟨pin 0 (C.take k), spanAt (plast 0 (C.take k)) most, spanAt (plast 0 (C.take k)) (x - 1), ?_, rfl, rfl, ?_, ?_⟩
  · rw [pin_len, List.length_take]; omega
  · show (x - 1) % 4294967296 = x - 1
    omega
  · rw [List.take_add_one, hx, Option.toList_some, pcs_snoc]
    congr 2
    unfold spanAt
    congr 1 <;> omega
/-- What Pieces hands back. -/
def PiecesRes (most : Int) (T : List (List SpanV)) (w : World) (e : Ending) (w' : World) : Prop :=
  ∃ (v : Value) (k : Int) (C : List Int), e = .returned (.tuple #[v, .int .i64 k]) ∧ StartsOf most T C ∧
    (C.length < 65536 ∧ k = 0 ∧ w'.ownsRow w.heap.size 78 2 v (pcs most 0 C).length (scells (pcs most 0 C)) ∨ 65536 ≤ C.length ∧ k = 1 ∧ v = .slice none 0 0) ∧ Below w.heap.size w w'
/-- The pieces that the document's cuts make. -/
def dout (most : Int) (T : List (List SpanV)) : List Int → List SpanV
  | [] => []
  | a :: q => pcs most a (q.filter (turnB T))
theorem dout_skip {most : Int} {T : List (List SpanV)} {r : List Int} {m : Nat} {c : Int} (hc : r[m]? = some c) (ht : turnB T c = false) : dout most T ((0 :: r).take (m + 1 + 1)) = dout most T ((0 :: r).take (m + 1)) := by
  show pcs most 0 ((r.take (m + 1)).filter (turnB T)) = pcs most 0 ((r.take m).filter (turnB T))
  rw [List.take_add_one, hc, Option.toList_some, List.filter_append]
  simp [ht]
theorem dout_step {most : Int} {T : List (List SpanV)} {r : List Int} {m : Nat} {c : Int} (hc : r[m]? = some c) (ht : turnB T c = true) (h0 : 0 < c) (h1 : c ≤ most) (hm : most < 4294967296) :
    ∃ (A : List SpanV) (t y : SpanV), dout most T ((0 :: r).take (m + 1)) = A ++ [t] ∧ A.length ≤ m ∧ y.lo = t.lo ∧ y.hi = c - 1 ∧ dout most T ((0 :: r).take (m + 1 + 1)) = A ++ [y] ++ [⟨c, most, by omega, by omega⟩] := by
  refine ⟨pin 0 ((r.take m).filter (turnB T)), spanAt (plast 0 ((r.take m).filter (turnB T))) most, spanAt (plast 0 ((r.take m).filter (turnB T))) (c - 1), rfl, ?_, rfl, ?_, ?_⟩
  · rw [pin_len]
    have := List.length_filter_le (turnB T) (r.take m)
    rw [List.length_take] at this
    omega
  · show (c - 1) % 4294967296 = c - 1
    omega
  · show pcs most 0 ((r.take (m + 1)).filter (turnB T)) = _
    rw [List.take_add_one, hc, Option.toList_some, List.filter_append]
    have e : [c].filter (turnB T) = [c] := by simp [ht]
    rw [e, pcs_snoc]
    congr 2
    unfold spanAt
    congr 1 <;> omega
theorem allS_flat (S : List SetV) : allS S = (setsL S).flatten := by simp [allS, setsL, List.flatMap_def]
end Go.Proofs.YtehpkpjgkmbngaaGreat

/-
  The walk of the document's Pieces.
-/
namespace Go.Proofs.YtehpkpjgkmbngaaGreat
open Go Go.RowKit Go.Lib Go.Sort

def cutAt (c : Int) (L : List SpanV) : Bool := hasB L c != hasB L (c - 1)
theorem any_take_succ {S : List SetV} {k : Nat} {x : SetV} (h : S[k]? = some x) (f : List SpanV → Bool) : ((setsL S).take (k + 1)).any f = (((setsL S).take k).any f || f x.L) := by
  unfold setsL
  rw [List.take_add_one, List.getElem?_map, h]
  simp
set_option maxRecDepth 100000 in
set_option maxHeartbeats 4000000 in
theorem refPieces_any (most : Int) (S : List SetV) (vs : Value) (w : World) (hS : SetsAt w w.heap.size vs S) (hm : 0 ≤ most ∧ most < 4294967296) (hlen : (allS S).length ≤ 1073741824) (hlen2 : S.length ≤ 1024) :
    Calls Tryz.prog 29 #[.int .u32 most, vs] w (PiecesRes most (setsL S) w) := by
  obtain ⟨i0, hi, hz0, hz1, hz2⟩ := info_parts Tryz.infoSpan
  have hcuts := cuts_any most S vs w hS hm hlen (by omega)
  obtain ⟨A0, c0, rfl, hc0⟩ := hS.1.form
  have HC := Lib.hid hcuts
  have HS := Lib.hid hS
  have hS0 : ¬ (1024 : Int) < (S.length : Int) := by omega
  have hxl : ∀ x ∈ S, x.L.length ≤ 1099511627776 := fun x hx => by
    have : x.L.length ≤ (allS S).length := by
      obtain ⟨A, B, e⟩ := List.append_of_mem hx
      rw [e]; simp [allS]; omega
    omega
  have HXL := Lib.hid hxl
  clear hcuts hS hxl
  go_enter Tryz.func29, Tryz.ntmps29
  go_wp2_with fail
  refine HC.out.mono ?_
  rintro e w1 ⟨v1, C, rfl, hown1, hcut, hCl, hb1⟩
  obtain ⟨r, rfl⟩ := hcut.head
  have rd1 := Rd.of_own hown1
  obtain ⟨A1, c1, rfl, hc1⟩ := rd1.form
  have hsz1 := hb1.size
  have hCl2 : (0 :: r).length ≤ 2147483650 := by omega
  have hle := fun (y : Int) (hy : y ∈ (0 :: r)) => hcut.le hm.1 hy
  have HR := Lib.hid rd1
  have HB := Lib.hid hb1
  have HK := Lib.hid hcut
  have HLE := Lib.hid hle
  clear rd1 hown1 hb1 hcut HC hCl hle
  have hCpos : 0 < (0 :: r).length := by simp
  have HCE : Hid ((0 :: r).length = r.length + 1) := Lib.hid (by simp)
  generalize hCC : (0 :: r) = C at *
  have HCC := Lib.hid hCC
  clear hCC
  go_wp2
  go_loopw [6, 8] (fun v i wr => ∃ j : Nat, i = .int .i64 j ∧ j ≤ C.length ∧ wr.ownsRow w1.heap.size 78 2 v (dout most (setsL S) (C.take j)).length (scells (dout most (setsL S) (C.take j))) ∧ (dout most (setsL S) (C.take j)).length ≤ j ∧ Below w1.heap.size w1 wr) (fun _ i _ => C.length - (intOf i).toNat)
  case atStart => exact ⟨0, rfl, by omega, World.ownsRow_nil _ _ _ _, by simp [dout], Below.refl _ _⟩
  case round =>
    obtain ⟨j, rfl, hj, hown, hol, hnx⟩ := hrel
    have hsz := hnx.size
    by_cases hlt : j < C.length
    · have hI : (j : Int) < (C.length : Int) := by omega
      obtain ⟨c, hc⟩ : ∃ c, C[j]? = some c := ⟨_, List.getElem?_eq_getElem hlt⟩
      obtain ⟨b, off, c', hv, _, hbB, hcell⟩ := (HR.out.below hnx).pos (by omega)
      injection hv with hv1 _ hv3
      subst hv1 hv3
      have f0 : wr.cell? ⟨b, off + j, none⟩ = some (.int .u32 c) := hcell j _ (encU_at hc)
      have hcb := HK.out.2.1 c (List.mem_of_getElem? hc)
      clear hcell
      by_cases hj0 : j = 0
      · subst hj0
        have e0 : c = 0 := by rw [← HCC.out] at hc; injection hc with hc; exact hc.symm
        subst e0
        have hd : dout most (setsL S) (C.take (0 + 1)) = pcs most 0 [] := by rw [← HCC.out]; rfl
        have HD := Lib.hid hd
        have f0' : wr.cell? ⟨b, off, none⟩ = some (.int .u32 0) := f0
        clear f0 hol
        have HOWN : Hid (wr.ownsRow w1.heap.size 78 2 u6 0 []) := Lib.hid hown
        have HNX := Lib.hid hnx
        clear hc hd hown hnx
        have hcr : C.length ≤ 2147483650 := by omega
        go_upto_block 2 with fail
        go_cut [9] (fun s9 wx => s9 = .bool true ∧ wx = wr)
        case first =>
          go_wp2_with fail
          go_loop [9, 10] (fun s i => s = .bool true ∧ i = .int .i64 0) (fun _ _ => 0)
          case atStart => exact ⟨rfl, rfl⟩
          case round =>
            obtain ⟨rfl, rfl⟩ := hrel
            by_cases hs0 : 0 < S.length
            · go_wp2
              go_meet
              exact ⟨rfl, rfl⟩
            · go_wp2
              go_meet
              exact ⟨rfl, rfl⟩
        case rest =>
          obtain ⟨rfl, rfl⟩ := hcut
          have hown0 := HOWN.out
          obtain ⟨A3, c3, rfl, _⟩ := owns_form hown0
          go_wp2_with (at_builtin; refine wpList_push rfl _ _ 81 rfl 78 i0 _ 2 8 Tryz.underlying81 hi hz0 hz1 hz2 rfl (by decide) (by decide) [.int .u32 0, .int .u32 most] rfl rfl (by simp) hown0 rfl (enc_one ⟨0, most, by omega, by omega⟩) (by omega) (by omega) HNX.out (Nat.le_refl _) ?_; intro v2 w2 hown2 hb2)
          refine ⟨⟨0 + 1, by go_num, by omega, ?_, ?_, hb2⟩, by simp only [intOf]; omega⟩
          · rw [HD.out, pcs_zero hm, pcs_len]
            exact hown2
          · rw [HD.out, pcs_len]; simp
      · obtain ⟨m, hjm⟩ : ∃ m, j = m + 1 := ⟨j - 1, by omega⟩
        have HJM := Lib.hid hjm
        have hrm : r[m]? = some c := by rw [← HCC.out, hjm] at hc; exact hc
        have hj0 : ((j : Int) == 0) = false := by simp; omega
        have hj1 : (0 : Int) < (j : Int) := by omega
        clear hjm
        have HRM := Lib.hid hrm
        have hc0 : 0 < c := by
          have h1 := HK.out.1
          rw [← HCC.out] at h1
          exact (List.pairwise_cons.1 h1).1 c (List.mem_of_getElem? hrm)
        have hcm := HLE.out c (List.mem_of_getElem? hc)
        have HOWN := Lib.hid hown
        have HNX := Lib.hid hnx
        clear hc hown hnx hrm
        have hcr : C.length ≤ 2147483650 := by omega
        have hc1 : (c - 1) % 4294967296 = c - 1 := by omega
        go_upto_block 2 with fail
        go_cut [9] (fun s9 wx => s9 = .bool (turnB (setsL S) c) ∧ Hid (Below wr.heap.size wr wx))
        case first =>
          go_wp2_with fail
          go_loopw [9, 10] (fun s i wx => ∃ k : Nat, i = .int .i64 k ∧ k ≤ S.length ∧ s = .bool (((setsL S).take k).any (cutAt c)) ∧ Hid (Below wr.heap.size wr wx)) (fun _ i _ => S.length - (intOf i).toNat)
          case atStart => exact ⟨0, rfl, by omega, by first | rfl | simp, Lib.hid (Below.refl _ _)⟩
          case round =>
            rename_i wy
            obtain ⟨k, rfl, hk, rfl, hby⟩ := hrel
            have f1 := (hby.cell (p := ⟨b, off + j, none⟩) (by show b < _; omega)).trans f0
            cases hb : ((setsL S).take k).any (cutAt c) with
            | true =>
              have hT : turnB (setsL S) c = true := by
                obtain ⟨L, hL, hh⟩ := List.any_eq_true.1 hb
                exact List.any_eq_true.2 ⟨L, List.mem_of_mem_take hL, hh⟩
              have HT := Lib.hid hT
              have HBY := Lib.hid hby
              clear hb hT hby
              by_cases hks : k < S.length
              · have hKI : (k : Int) < (S.length : Int) := by omega
                go_wp2
                go_meet
                exact ⟨by rw [HT.out], HBY.out⟩
              · have hKI : ¬ (k : Int) < (S.length : Int) := by omega
                go_wp2
                go_meet
                exact ⟨by rw [HT.out], HBY.out⟩
            | false =>
              by_cases hks : k < S.length
              · have hKI : (k : Int) < (S.length : Int) := by omega
                obtain ⟨x, hx⟩ : ∃ x, S[k]? = some x := ⟨_, List.getElem?_eq_getElem hks⟩
                have hbw : Below w.heap.size w wr := HB.out.trans ((HNX.out.mono hsz1).trans (hby.mono (by omega)))
                have hS1 := HS.out.below hbw
                have hxr := (hS1.2 x (List.mem_of_getElem? hx)).mono hbw.size
                obtain ⟨Ax, cx, hxv, _⟩ := hxr.form
                obtain ⟨b2, off2, c2, hv, _, _, hcell⟩ := hS1.1.pos (by omega)
                injection hv with hv1 _ hv3
                subst hv1 hv3
                have g0 : wr.cell? ⟨b2, off2 + k, none⟩ = some (.slice Ax x.L.length cx) := by rw [← hxv]; exact hcell k _ (by simp [svals, hx])
                rw [hxv] at hxr
                have hxl := HXL.out x (List.mem_of_getElem? hx)
                have HH : Hid (∀ (y : Int) (W : World), Below wr.heap.size wr W → Calls Tryz.prog 58 #[.slice Ax x.L.length cx, .int .u32 y] W fun e w' => e = .returned (.bool (hasB x.L y)) ∧ W = w') := Lib.hid fun y W hW => refHas_any x.L _ y W ((hxr.below hW).mono hW.size) hxl
                have HSTEP := Lib.hid (any_take_succ hx (cutAt c))
                have HBF := Lib.hid hb
                have F0 := cell_regrown f1
                have G0 := cell_regrown g0
                have HBY := Lib.hid hby
                clear hx hxv hcell hS1 hbw hxr hxl hb hby
                go_wp2
                refine wp_region_quiet_below (by kernel_rfl) (by kernel_rfl) ?_
                repeat (first | go_big_quiet_step ((go_at_call 58; with_reducible exact regrown_left (HH.out _ _ (below_regrown wr _ _)))) | quiet_step ((go_at_call 58; with_reducible exact regrown_left (HH.out _ _ (below_regrown wr _ _)))))
                refine wpQuiet_nil ?_
                intro _ hw'
                obtain ⟨⟨nq, osq⟩, hw''⟩ := hw'
                subst hw''
                have hq := below_regrown wr nq osq
                have HBQ := Lib.hid (HBY.out.trans (hq.mono HBY.out.size))
                clear HBY F0 G0 g0 f1 HH
                generalize grow (redrawn wr nq) osq = W1 at *
                clear hq
                go_wp2
                go_roundw
                case rel => exact ⟨k + 1, by go_num, by omega, by rw [HSTEP.out, HBF.out]; rfl, HBQ.out⟩
                case measure => simp only [intOf]; omega
              · obtain rfl : k = S.length := by omega
                have hT : turnB (setsL S) c = false := by
                  have e : (setsL S).take S.length = setsL S := List.take_of_length_le (by simp [setsL])
                  rw [e] at hb
                  exact hb
                have HT := Lib.hid hT
                have HBY := Lib.hid hby
                have hKI : ¬ (S.length : Int) < (S.length : Int) := by omega
                clear hb hT hby
                go_wp2
                go_meet
                exact ⟨by rw [HT.out], HBY.out⟩
        case rest =>
          obtain ⟨rfl, hbx⟩ := hcut
          have hnx1 := HNX.out.trans (hbx.mono hsz)
          have hown1 := owns_kept_none HOWN.out (only_of_below hbx none)
          have f1 := (hbx.cell (p := ⟨b, off + j, none⟩) (by show b < wr.heap.size; omega)).trans f0
          have hszc := hnx1.size
          clear hbx f0
          cases ht : turnB (setsL S) c with
          | false =>
            have hd := dout_skip (most := most) HRM.out ht
            rw [HCC.out, ← HJM.out] at hd
            have HD := Lib.hid hd
            have HO := Lib.hid hown1
            have HN := Lib.hid hnx1
            clear ht hd hown1 hnx1
            go_wp2
            refine ⟨⟨j + 1, by go_num, by omega, ?_, ?_, HN.out⟩, by simp only [intOf]; omega⟩
            · rw [HD.out]; exact HO.out
            · rw [HD.out]; omega
          | true =>
            obtain ⟨A, t, y, hd1, hAl, hy1, hy2, hd2⟩ := dout_step HRM.out ht hc0 hcm hm.2
            rw [HCC.out, ← HJM.out] at hd1 hd2
            rw [hd1] at hown1
            have hl1 : (A ++ [t]).length = A.length + 1 := by simp
            rw [hl1] at hown1
            obtain ⟨A3, c3, rfl, hA3⟩ := owns_form hown1
            obtain ⟨g, rfl⟩ := hA3 (by omega)
            have e1 : wc.cell? ⟨g, A.length * 2 + 1, none⟩ = some (.int .u32 t.hi) := (hown1.cellAt (A.length * 2 + 1) (by omega)).trans (scell (L := A ++ [t]) (k := A.length) (i := 1) (x := t) (by simp) rfl)
            have e2 := hown1.frozenAt (A.length * 2 + 1)
            have hgB := (hown1.lt g rfl).1
            have hi1 : (0 : Int) ≤ (A.length : Int) := by omega
            have hi2 : (A.length : Int) < (A.length : Int) + 1 := by omega
            have hi3 : A.length ≤ 2147483650 := by have := HJM.out; omega
            have s1 := (hown1.stored (A.length * 2 + 1) (.int .u32 (c - 1))).1
            rw [show (scells (A ++ [t])).set (A.length * 2 + 1) (.int .u32 (c - 1)) = scells (A ++ [y]) by rw [← hy2]; exact scells_set hy1] at s1
            have n1 := hnx1.setCell (p := ⟨g, A.length * 2 + 1, none⟩) hgB (.int .u32 (c - 1))
            have z3 := (n1.cell (p := ⟨b, off + j, none⟩) (by show b < w1.heap.size; exact hbB)).trans (((hnx1.cell (p := ⟨b, off + j, none⟩) (by show b < w1.heap.size; exact hbB)).symm).trans f1)
            have S1 := Lib.hid s1
            have N1 := Lib.hid n1
            have HD2 := Lib.hid hd2
            clear ht hd1 hd2 hy1 hy2 hown1 hnx1 s1 n1
            go_wp2_with (at_builtin; refine wpList_push rfl _ _ 81 rfl 78 i0 _ 2 8 Tryz.underlying81 hi hz0 hz1 hz2 rfl (by decide) (by decide) [.int .u32 c, .int .u32 most] rfl rfl (by simp) S1.out rfl (enc_one ⟨c, most, by omega, by omega⟩) (by omega) N1.out.size N1.out (Nat.le_refl _) ?_; intro v2 w4 hown2 hb2)
            refine ⟨⟨j + 1, by go_num, by omega, ?_, ?_, hb2⟩, by simp only [intOf]; omega⟩
            · rw [HD2.out, scells_snoc (A ++ [y]), List.length_append, List.length_append]
              exact hown2
            · rw [HD2.out]; have := HJM.out; simp; omega
    · obtain rfl : j = C.length := by omega
      rw [List.take_length] at hown hol
      have hd : dout most (setsL S) C = pcs most 0 (r.filter (turnB (setsL S))) := by rw [← HCC.out]; rfl
      have hst : StartsOf most (setsL S) (r.filter (turnB (setsL S))) := by
        refine CutsOf.starts ?_
        rw [HCC.out, ← allS_flat]
        exact HK.out
      rw [hd, pcs_len] at hown hol
      have HST := Lib.hid hst
      have HNX := Lib.hid hnx
      clear hd hst hnx
      generalize r.filter (turnB (setsL S)) = F at *
      obtain ⟨A3, c3, rfl, _⟩ := owns_form hown
      have HOWN := Lib.hid hown
      clear hown
      go_upto_if 81 with fail
      by_cases hbig : 65536 ≤ F.length
      · have hB : decide ((65536 : Int) < (F.length : Int) + 1) = true := decide_eq_true (by omega)
        rw [hB]
        clear hB
        go_wp2
        go_ret2
        exact ⟨_, _, F, rfl, HST.out, .inr ⟨hbig, rfl, rfl⟩, HB.out.trans (HNX.out.mono hsz1)⟩
      · have hB : decide ((65536 : Int) < (F.length : Int) + 1) = false := decide_eq_false (by omega)
        rw [hB]
        clear hB
        go_wp2
        go_ret2
        refine ⟨_, _, F, rfl, HST.out, .inl ⟨by omega, rfl, ?_⟩, HB.out.trans (HNX.out.mono hsz1)⟩
        rw [pcs_len]
        exact owns_base HOWN.out hsz1
end Go.Proofs.YtehpkpjgkmbngaaGreat

/-
  A piece with all that is true of it; how many pieces there are at most. No program in sight.
-/
namespace Go.Proofs.YtehpkpjgkmbngaaGreat

/-- The numbers of the first i pieces. -/
def nAt (most : Int) (C : List Int) (i : Nat) : Int := if i ≤ C.length then pbeg 0 C i else most + 1
theorem nAt_zero (most : Int) (C : List Int) : nAt most C 0 = 0 := by simp [nAt, pbeg]
theorem nAt_succ (most : Int) (C : List Int) {i : Nat} (h : i < C.length + 1) : nAt most C (i + 1) = pend most C i + 1 := by
  unfold nAt
  by_cases h1 : i + 1 ≤ C.length
  · rw [if_pos h1]
    exact pbeg_succ 0 C most (by omega)
  · rw [if_neg h1]
    obtain rfl : i = C.length := by omega
    rw [pend_last]
theorem nAt_at (most : Int) (C : List Int) {i : Nat} (h : i < C.length + 1) : nAt most C i = pbeg 0 C i := by
  unfold nAt
  rw [if_pos (by omega)]
theorem nAt_end (most : Int) (C : List Int) : nAt most C (C.length + 1) = most + 1 := by
  unfold nAt
  rw [if_neg (by omega)]
structure PieceAt (most : Int) (T : List (List SpanV)) (C : List Int) (i : Nat) (s : SpanV) : Prop where
  at_ : (pcs most 0 C)[i]? = some s
  lo0 : 0 ≤ s.lo
  le : s.lo ≤ s.hi
  hi : s.hi ≤ most
  alike : ∀ L ∈ T, ∀ x, s.lo ≤ x → x ≤ s.hi → hasB L x = hasB L s.lo
  turn : 0 < i → turnB T s.lo = true ∧ 0 < s.lo ∧ ∃ p, (pcs most 0 C)[i - 1]? = some p ∧ p.hi + 1 = s.lo
  first : i = 0 → s.lo = 0
  last : i = C.length → s.hi = most
  n0 : nAt most C i = s.lo
  n1 : nAt most C (i + 1) = s.hi + 1
theorem spanAt_lo {a b : Int} (h : 0 ≤ a ∧ a < 4294967296) : (spanAt a b).lo = a := Int.emod_eq_of_lt h.1 h.2
theorem spanAt_hi {a b : Int} (h : 0 ≤ b ∧ b < 4294967296) : (spanAt a b).hi = b := Int.emod_eq_of_lt h.1 h.2
theorem StartsOf.piece {most : Int} (hm : 0 ≤ most ∧ most < 4294967296) {T : List (List SpanV)} {C : List Int} (h : StartsOf most T C) {i : Nat} (hi : i < C.length + 1) : ∃ s, PieceAt most T C i s := by
  obtain ⟨b0, b1, b2, _⟩ := h.bounds hm.1 hi
  have e1 : (spanAt (pbeg 0 C i) (pend most C i)).lo = pbeg 0 C i := spanAt_lo ⟨b0, by omega⟩
  have e2 : (spanAt (pbeg 0 C i) (pend most C i)).hi = pend most C i := spanAt_hi ⟨by omega, by omega⟩
  refine ⟨spanAt (pbeg 0 C i) (pend most C i), pcs_get most C 0 i hi, by omega, by omega, by omega, ?_, ?_, ?_, ?_, ?_, ?_⟩
  · intro L hL x h1 h2
    rw [e1] at h1 ⊢
    rw [e2] at h2
    exact h.alike hm.1 hi hL h1 h2
  · intro h0
    obtain ⟨k, rfl⟩ : ∃ k, i = k + 1 := ⟨i - 1, by omega⟩
    have hp := pbeg_mem 0 (C := C) (show k < C.length by omega)
    have hq := (h.2 _).1 hp
    rw [e1]
    refine ⟨hq.2.2, hq.1, spanAt (pbeg 0 C k) (pend most C k), pcs_get most C 0 k (by omega), ?_⟩
    obtain ⟨c0, c1, c2, _⟩ := h.bounds hm.1 (show k < C.length + 1 by omega)
    rw [spanAt_hi ⟨by omega, by omega⟩]
    exact (pbeg_succ 0 C most (by omega)).symm
  · rintro rfl
    rw [e1]; rfl
  · rintro rfl
    rw [e2, pend_last]
  · rw [e1]; exact nAt_at most C hi
  · rw [e2]; exact nAt_succ most C hi
/-- A list without repeats, all of another list, is no longer than that. -/
theorem nodup_len : ∀ {A B : List Int}, A.Nodup → (∀ x ∈ A, x ∈ B) → A.length ≤ B.length
  | [], _, _, _ => by simp
  | a :: r, B, hn, hs => by
    have hn' := List.nodup_cons.1 hn
    have ha := hs a (List.mem_cons_self ..)
    have h1 : ∀ x ∈ r, x ∈ B.erase a := fun x hx => by
      have hxa : x ≠ a := fun e => hn'.1 (e ▸ hx)
      exact (List.mem_erase_of_ne hxa).2 (hs x (List.mem_cons_of_mem _ hx))
    have h2 := nodup_len hn'.2 h1
    rw [List.length_erase_of_mem ha] at h2
    have := List.length_pos_of_mem ha
    simp only [List.length_cons]
    omega
def marks (S : List SpanV) : List Int := S.flatMap fun s => [s.lo, s.hi + 1]
theorem marks_len : ∀ S : List SpanV, (marks S).length = 2 * S.length
  | [] => rfl
  | s :: r => by
    show (marks r).length + 1 + 1 = 2 * (r.length + 1)
    rw [marks_len r]; omega
theorem StartsOf.len {most : Int} {T : List (List SpanV)} {C : List Int} (h : StartsOf most T C) : C.length ≤ 2 * T.flatten.length := by
  rw [← marks_len]
  refine nodup_len (h.1.imp fun {a b} hab => by omega) fun x hx => ?_
  obtain ⟨_, _, ht⟩ := (h.2 x).1 hx
  unfold turnB at ht
  obtain ⟨L, hL, hh⟩ := List.any_eq_true.1 ht
  obtain ⟨s, hs, _, ho⟩ := turn_mark (L := L) (x := x) (by simpa [bne] using hh)
  refine List.mem_flatMap.2 ⟨s, List.mem_flatten.2 ⟨L, hL, hs⟩, ?_⟩
  simpa using ho
end Go.Proofs.YtehpkpjgkmbngaaGreat

/-
  Walks over the addresses' layer: Mask, Bits, Subnet; the program's and the reference's.
-/
namespace Go.Proofs.YtehpkpjgkmbngaaGreat
open Go Go.RowKit Go.Sort

/-- The mask of so many bits, and the refusal. -/
def maskA (n : Int) : Int := if n < 0 ∨ 32 < n then 0 else 4294967296 - sz n
def argE (n : Int) : Int := if n < 0 ∨ 32 < n then 1 else 0
theorem mask_no {n : Int} (h : n < 0 ∨ 32 < n) : maskA n = 0 ∧ argE n = 1 := ⟨if_pos h, if_pos h⟩
theorem mask_yes {n : Int} (h0 : 0 ≤ n) (h1 : n ≤ 32) : maskA n = 4294967296 - sz n ∧ argE n = 0 := ⟨if_neg (by omega), if_neg (by omega)⟩
theorem ret2 {v v' u u' : Value} (h : v = v' ∧ u = u') : Ending.returned (.tuple #[v, u]) = .returned (.tuple #[v', u']) := by rw [h.1, h.2]
theorem vint {k : IntKind} {a b : Int} (h : a = b) : Value.int k a = .int k b := by rw [h]

theorem mask_range (n : Int) : 0 ≤ maskA n ∧ maskA n < 4294967296 := by
  unfold maskA
  have hp := sz_pos n
  have hq := sz_le n
  split <;> omega
/-- Of how many bits a mask is, and the refusal. -/
def bitsN (m : Int) : Int := if maskA (lz32 (4294967295 - m)) = m then lz32 (4294967295 - m) else 0
def bitsE (m : Int) : Int := if maskA (lz32 (4294967295 - m)) = m then 0 else 10
theorem bits_yes {m : Int} (h : maskA (lz32 (4294967295 - m)) = m) : bitsN m = lz32 (4294967295 - m) ∧ bitsE m = 0 := ⟨if_pos h, if_pos h⟩
theorem bits_no {m : Int} (h : ¬ maskA (lz32 (4294967295 - m)) = m) : bitsN m = 0 ∧ bitsE m = 10 := ⟨if_neg h, if_neg h⟩
theorem mask_lz (n : Int) (h0 : 0 ≤ n) (h1 : n ≤ 32) : lz32 (4294967295 - maskA n) = n := by
  rw [(mask_yes h0 h1).1, show 4294967295 - (4294967296 - sz n) = sz n - 1 by omega]
  exact lz32_mask n h0 h1

end Go.Proofs.YtehpkpjgkmbngaaGreat

/-
  Walks over the addresses' layer: Subnet, Ends; the program's and the reference's.
-/
namespace Go.Proofs.YtehpkpjgkmbngaaGreat
open Go Go.RowKit Go.Sort

/-- The first address of a subnet of so many bits. -/
def subA (a n : Int) : Int := if n < 0 ∨ 32 < n then 0 else a - a % sz n
def subN (n : Int) : Int := if n < 0 ∨ 32 < n then 0 else n
theorem sub_no {n : Int} (a : Int) (h : n < 0 ∨ 32 < n) : subA a n = 0 ∧ subN n = 0 ∧ argE n = 1 := ⟨if_pos h, if_pos h, if_pos h⟩
theorem sub_yes {n : Int} (a : Int) (h0 : 0 ≤ n) (h1 : n ≤ 32) : subA a n = a - a % sz n ∧ subN n = n ∧ argE n = 0 := ⟨if_neg (by omega), if_neg (by omega), if_neg (by omega)⟩
theorem mod_le (a n : Int) (h0 : 0 ≤ a) : 0 ≤ a % sz n ∧ a % sz n ≤ a ∧ a % sz n < sz n ∧ a / sz n * sz n = a - a % sz n ∧ 0 ≤ a / sz n := by
  have hp := sz_pos n
  have l1 := Int.emod_nonneg a (by omega : sz n ≠ 0)
  have l2 := Int.emod_lt_of_pos a (by omega : 0 < sz n)
  have e1 := Int.emod_add_mul_ediv a (sz n)
  have e3 := Int.ediv_nonneg h0 (by omega : 0 ≤ sz n)
  have e2 := Int.mul_nonneg (by omega : 0 ≤ sz n) e3
  rw [Int.mul_comm (a / sz n)]
  omega
theorem sub_range (a n : Int) (h0 : 0 ≤ a) (h1 : a < 4294967296) : 0 ≤ subA a n ∧ subA a n < 4294967296 := by
  unfold subA
  obtain ⟨m1, m2, _⟩ := mod_le a n h0
  split <;> omega
theorem sub_val (a n : Int) (h0 : 0 ≤ a) (h1 : a < 4294967296) : IntKind.u32.wrap (IntKind.u64.wrap (IntKind.u64.wrap ((IntKind.u64.wrap a).tdiv (sz n)) * sz n)) = a - a % sz n := by
  have hp := sz_pos n
  obtain ⟨m1, m2, m3, m4, m5⟩ := mod_le a n h0
  have e1 : IntKind.u64.wrap a = a := by rw [IntKind.wrap_u64]; omega
  have m6 : a / sz n ≤ a := Int.ediv_le_self _ h0
  rw [e1, Int.tdiv_eq_ediv_of_nonneg h0]
  have e2 : IntKind.u64.wrap (a / sz n) = a / sz n := by rw [IntKind.wrap_u64]; omega
  rw [e2, m4, IntKind.wrap_u64, IntKind.wrap_u32']
  omega
theorem ret_p2 {a a' n n' e e' : Int} (h : a = a' ∧ n = n' ∧ e = e') : Ending.returned (.tuple #[.agg #[.int .u32 a, .int .i64 n], .int .i64 e]) = .returned (.tuple #[.agg #[.int .u32 a', .int .i64 n'], .int .i64 e']) := by rw [h.1, h.2.1, h.2.2]

/-- The last address of a prefix that may be. -/
def endA (a n : Int) : Int := if chk a n = 0 then a else 0
def endB (a n : Int) : Int := if chk a n = 0 then a + sz n - 1 else 0
theorem end_yes {a n : Int} (h : chk a n = 0) : endA a n = a ∧ endB a n = a + sz n - 1 := ⟨if_pos h, if_pos h⟩
theorem end_no {a n : Int} (h : ¬ chk a n = 0) : endA a n = 0 ∧ endB a n = 0 := ⟨if_neg h, if_neg h⟩
theorem ret3 {v v' u u' x x' : Value} (h : v = v' ∧ u = u' ∧ x = x') : Ending.returned (.tuple #[v, u, x]) = .returned (.tuple #[v', u', x']) := by rw [h.1, h.2.1, h.2.2]
theorem or_sz (a n : Int) (ha : 0 ≤ a) (hb : a < 4294967296) (h : a % sz n = 0) : bits .or .u32 a (sz n - 1) = a + sz n - 1 := by
  obtain ⟨a, rfl⟩ := Int.eq_ofNat_of_zero_le ha
  have hp := sz_pos n
  have hq := sz_le n
  rw [u32_or _ _ ha hb (by omega) (by omega), sz_nat]
  have e : (((2 ^ (32 - n.toNat) : Nat) : Int) - 1).toNat = 2 ^ (32 - n.toNat) - 1 := by omega
  have hm : a % 2 ^ (32 - n.toNat) = 0 := by rw [sz_nat] at h; omega
  have h2 := Nat.two_pow_pos (32 - n.toNat)
  rw [e, Int.toNat_natCast, nat_join (32 - n.toNat) a _ hm (by omega)]
  omega
theorem end_le (a n : Int) (hb : a < 4294967296) (h : a % sz n = 0) : a + sz n - 1 < 4294967296 := by
  obtain ⟨c, hc⟩ := sz_dvd n
  have hp := sz_pos n
  have e1 := Int.emod_add_mul_ediv a (sz n)
  rw [h] at e1
  have : sz n * (a / sz n) < sz n * c := by omega
  have h3 : a / sz n < c := Int.lt_of_mul_lt_mul_left this (by omega)
  have h4 : sz n * (a / sz n + 1) ≤ sz n * c := Int.mul_le_mul_of_nonneg_left (by omega) (by omega)
  rw [Int.mul_add] at h4
  omega

set_option maxHeartbeats 400000 in
theorem addrEnds_any (a n : Int) (w : World) (h0 : 0 ≤ a) (h1 : a < 4294967296) :
    Calls Tryz.prog 17 #[.agg #[.int .u32 a, .int .i64 n]] w fun e w' => e = .returned (.tuple #[.int .u32 (endA a n), .int .u32 (endB a n), .int .i64 (chk a n)]) ∧ Below w.heap.size w w' := by
  by_cases hr : chk a n = 0
  · have hm := Lib.hid (end_yes hr)
    obtain ⟨hn0, hn1, h2⟩ := chk_ok hr
    have hd : (chk a n != 0) = false := by simp [hr]
    have hR := Lib.hid hr
    have ho := Lib.hid (or_sz a n h0 h1 h2)
    clear hr h2
    go_enter Tryz.func17, Tryz.ntmps17
    go_wp2_with fail
    refine (addrCheck_any _ _ _ h0 h1).mono ?_
    rintro e w1 ⟨rfl, hb⟩
    have c0 : w1.cell? ⟨w.heap.size, 0, none⟩ = some (.int .u32 a) := (hb.cell (p := ⟨w.heap.size, 0, none⟩) (by simp)).trans (by simp)
    have c1 : w1.cell? ⟨w.heap.size, 1, none⟩ = some (.int .i64 n) := (hb.cell (p := ⟨w.heap.size, 1, none⟩) (by simp)).trans (by simp)
    have hbw := ((Below.refl w.heap.size w).alloc (Nat.le_refl _) (.cells #[.int .u32 a, .int .i64 n] 38)).trans (hb.mono (by simp))
    go_wp2
    go_quiet ((go_at_call 47; exact quiet_left (behind_any _ _ (by omega) (by omega))))
    go_wp2
    go_ret3
    exact ⟨ret3 ⟨vint hm.out.1.symm, vint (by rw [ho.out]; exact hm.out.2.symm), vint hR.out.symm⟩, below_drewN hbw _⟩
  · have hm := Lib.hid (end_no hr)
    have hd : (chk a n != 0) = true := by simp [hr]
    clear hr
    go_enter Tryz.func17, Tryz.ntmps17
    go_wp2_with fail
    refine (addrCheck_any _ _ _ h0 h1).mono ?_
    rintro e w1 ⟨rfl, hb⟩
    have hbw := ((Below.refl w.heap.size w).alloc (Nat.le_refl _) (.cells #[.int .u32 a, .int .i64 n] 38)).trans (hb.mono (by simp))
    go_wp2
    go_ret3
    exact ⟨ret3 ⟨vint hm.out.1.symm, vint hm.out.2.symm, rfl⟩, hbw⟩

set_option maxHeartbeats 400000 in
theorem refEnds_any (a n : Int) (w : World) (h0 : 0 ≤ a) (h1 : a < 4294967296) :
    Calls Tryz.prog 28 #[.agg #[.int .u32 a, .int .i64 n]] w fun e w' => e = .returned (.tuple #[.int .u32 (endA a n), .int .u32 (endB a n), .int .i64 (chk a n)]) ∧ Below w.heap.size w w' := by
  by_cases hr : chk a n = 0
  · have hm := Lib.hid (end_yes hr)
    obtain ⟨hn0, hn1, h2⟩ := chk_ok hr
    have hd : (chk a n != 0) = false := by simp [hr]
    have hR := Lib.hid hr
    have hl := end_le a n h1 h2
    have hp := sz_pos n
    clear hr h2
    go_enter Tryz.func28, Tryz.ntmps28
    go_wp2_with fail
    refine (refCheck_any _ _ _ h0 h1).mono ?_
    rintro e w1 ⟨rfl, hb⟩
    have c0 : w1.cell? ⟨w.heap.size, 0, none⟩ = some (.int .u32 a) := (hb.cell (p := ⟨w.heap.size, 0, none⟩) (by simp)).trans (by simp)
    have c1 : w1.cell? ⟨w.heap.size, 1, none⟩ = some (.int .i64 n) := (hb.cell (p := ⟨w.heap.size, 1, none⟩) (by simp)).trans (by simp)
    have hbw := ((Below.refl w.heap.size w).alloc (Nat.le_refl _) (.cells #[.int .u32 a, .int .i64 n] 38)).trans (hb.mono (by simp))
    go_wp2
    go_quiet ((go_at_call 56; exact quiet_left (size_any _ _ (by omega) (by omega))))
    go_wp2
    go_ret3
    exact ⟨ret3 ⟨vint hm.out.1.symm, vint hm.out.2.symm, vint hR.out.symm⟩, below_drewN hbw _⟩
  · have hm := Lib.hid (end_no hr)
    have hd : (chk a n != 0) = true := by simp [hr]
    clear hr
    go_enter Tryz.func28, Tryz.ntmps28
    go_wp2_with fail
    refine (refCheck_any _ _ _ h0 h1).mono ?_
    rintro e w1 ⟨rfl, hb⟩
    have hbw := ((Below.refl w.heap.size w).alloc (Nat.le_refl _) (.cells #[.int .u32 a, .int .i64 n] 38)).trans (hb.mono (by simp))
    go_wp2
    go_ret3
    exact ⟨ret3 ⟨vint hm.out.1.symm, vint hm.out.2.symm, rfl⟩, hbw⟩

end Go.Proofs.YtehpkpjgkmbngaaGreat

/-
  Walks over the addresses' layer: Halves; the program's and the reference's.
-/
namespace Go.Proofs.YtehpkpjgkmbngaaGreat
open Go Go.RowKit Go.Sort

/-- The halves of a prefix: the refusal, where they begin, their bits. -/
def halfE (a n : Int) : Int := if chk a n = 0 then (if n = 32 then 5 else 0) else chk a n
def halfL (a n : Int) : Int := if halfE a n = 0 then a else 0
def halfH (a n : Int) : Int := if halfE a n = 0 then a + sz (n + 1) else 0
def halfN (a n : Int) : Int := if halfE a n = 0 then n + 1 else 0
theorem half_no {a n : Int} (h : ¬ halfE a n = 0) : halfL a n = 0 ∧ halfH a n = 0 ∧ halfN a n = 0 := ⟨if_neg h, if_neg h, if_neg h⟩
theorem half_yes {a n : Int} (h : halfE a n = 0) : halfL a n = a ∧ halfH a n = a + sz (n + 1) ∧ halfN a n = n + 1 := ⟨if_pos h, if_pos h, if_pos h⟩
theorem halfE_chk {a n : Int} (h : ¬ chk a n = 0) : halfE a n = chk a n := if_neg h
theorem halfE_32 {a n : Int} (h : chk a n = 0) (h1 : n = 32) : halfE a n = 5 := by unfold halfE; rw [if_pos h, if_pos h1]
theorem halfE_ok {a n : Int} (h : chk a n = 0) (h1 : ¬ n = 32) : halfE a n = 0 := by unfold halfE; rw [if_pos h, if_neg h1]
theorem ret_pp {a a' b b' n n' e e' : Int} (h : a = a' ∧ b = b' ∧ n = n' ∧ e = e') : Ending.returned (.tuple #[.agg #[.int .u32 a, .int .i64 n], .agg #[.int .u32 b, .int .i64 n], .int .i64 e]) = .returned (.tuple #[.agg #[.int .u32 a', .int .i64 n'], .agg #[.int .u32 b', .int .i64 n'], .int .i64 e']) := by rw [h.1, h.2.1, h.2.2.1, h.2.2.2]

theorem half_le (a n : Int) (hb : a < 4294967296) (hn0 : 0 ≤ n) (hn : n < 32) (h : a % sz n = 0) : sz n = 2 * sz (n + 1) ∧ a + sz (n + 1) < 4294967296 := by
  have e : sz n = 2 * sz (n + 1) := by
    unfold sz
    rw [← p2_succ]
    congr 1; omega
  have h1 := end_le a n hb h
  have := sz_pos (n + 1)
  omega
theorem or_half (a n : Int) (ha : 0 ≤ a) (hb : a < 4294967296) (hn0 : 0 ≤ n) (hn : n < 32) (h : a % sz n = 0) : bits .or .u32 a (2 ^ (31 - n).toNat % 4294967296) = a + sz (n + 1) := by
  obtain ⟨a, rfl⟩ := Int.eq_ofNat_of_zero_le ha
  have e1 : (31 - n).toNat = 32 - (n + 1).toNat := by omega
  have e2 : (2 : Int) ^ (31 - n).toNat = sz (n + 1) := by rw [e1]; rfl
  have hp := sz_pos (n + 1)
  have e3 : sz (n + 1) < 4294967296 := by
    have := p2_succ (32 - (n + 1).toNat)
    have h3 := p2_le32 (k := 32 - (n + 1).toNat + 1) (by omega)
    unfold sz at *
    omega
  rw [e2, Int.emod_eq_of_lt (by omega) e3, u32_or _ _ ha hb (by omega) e3, sz_nat]
  have h2 := Nat.two_pow_pos (32 - (n + 1).toNat)
  have hm : a % 2 ^ (32 - n.toNat) = 0 := by rw [sz_nat] at h; omega
  rw [Int.toNat_natCast, Int.toNat_natCast, nat_join (32 - n.toNat) a _ hm (by
    rw [show 32 - n.toNat = (32 - (n + 1).toNat) + 1 by omega, Nat.pow_succ]; omega)]
  omega

theorem half_val (a n : Int) (ha : 0 ≤ a) (hb : a < 4294967296) (hn0 : 0 ≤ n) (hn : n < 32) (h : a % sz n = 0) : IntKind.u32.wrap (IntKind.u64.wrap (IntKind.u64.wrap a + sz (n + 1))) = a + sz (n + 1) := by
  have h1 := half_le a n hb hn0 hn h
  have := sz_pos (n + 1)
  simp only [IntKind.wrap_u64, IntKind.wrap_u32']
  omega
theorem results_pp {fn : Func} {tmps : Array Value} {w : World} {g1 g2 : Nat} {a b c d e : Value} {t1 t2 t3 : Nat} (hf : fn.results = #[.cell t1 38, .cell t2 38, .tmp t3]) (h1 : tmps.getD t1 undef = .pointer (some ⟨g1, 0, none⟩)) (h2 : tmps.getD t2 undef = .pointer (some ⟨g2, 0, none⟩)) (h3 : tmps.getD t3 undef = e)
    (k1 : w.heap[g1]? = some (.cells #[a, b] 38 (0, 0))) (k2 : w.heap[g2]? = some (.cells #[c, d] 38 (0, 0))) :
    (results fn tmps).run Tryz.prog w = .ok (.tuple #[.agg #[a, b], .agg #[c, d], e]) w := by
  obtain ⟨c0, c1, _, _⟩ := two_cells k1
  obtain ⟨c2, c3, _, _⟩ := two_cells k2
  have h1' : tmps[t1]?.getD undef = .pointer (some ⟨g1, 0, none⟩) := by simpa using h1
  have h2' : tmps[t2]?.getD undef = .pointer (some ⟨g2, 0, none⟩) := by simpa using h2
  have h3' : tmps[t3]?.getD undef = e := by simpa using h3
  simp [results, hf, h1', h2', h3', go_sem, c0, c1, c2, c3]

def HalfRes (a n : Int) (w : World) (en : Ending) (w' : World) : Prop :=
  en = .returned (.tuple #[.agg #[.int .u32 (halfL a n), .int .i64 (halfN a n)], .agg #[.int .u32 (halfH a n), .int .i64 (halfN a n)], .int .i64 (halfE a n)]) ∧ Below w.heap.size w w'

end Go.Proofs.YtehpkpjgkmbngaaGreat

/-
  Walks over the addresses' layer: Within, Cmp, and the law's same; the program's and the reference's.
-/
namespace Go.Proofs.YtehpkpjgkmbngaaGreat
open Go Go.RowKit Go.Sort

/-- Is a prefix in another one? -/
def withinB (a n b m : Int) : Bool := decide (chk a n = 0 ∧ m ≤ n) && inB a b m
theorem within_1 {a n : Int} (b m : Int) (h : ¬ chk a n = 0) : false = withinB a n b m := by unfold withinB; simp [h]
theorem within_2 {n m : Int} (a b : Int) (h : ¬ m ≤ n) : false = withinB a n b m := by unfold withinB; simp [h]
theorem within_3 {a n b m : Int} (h : ¬ chk b m = 0) : false = withinB a n b m := by unfold withinB; rw [← in_no a b m h]; simp
theorem within_4 {a n b m : Int} (h : chk a n = 0) (h1 : m ≤ n) : inB a b m = withinB a n b m := by unfold withinB; simp [h, h1]

set_option maxHeartbeats 400000 in
theorem addrWithin_any (a n b m : Int) (w : World) (h0 : 0 ≤ a) (h1 : a < 4294967296) (h2 : 0 ≤ b) (h3 : b < 4294967296) :
    Calls Tryz.prog 60 #[.agg #[.int .u32 a, .int .i64 n], .agg #[.int .u32 b, .int .i64 m]] w fun e w' => e = .returned (.bool (withinB a n b m)) ∧ Below w.heap.size w w' := by
  by_cases hr : chk a n = 0
  · have hd : (chk a n == 0) = true := by simp [hr]
    by_cases hm : m ≤ n
    · have hE := Lib.hid (within_4 (b := b) hr hm)
      have hd2 : decide (m ≤ n) = true := by simp [hm]
      clear hr
      go_enter Tryz.func60, Tryz.ntmps60
      go_wp2_with fail
      refine (addrCheck_any _ _ _ h0 h1).mono ?_
      rintro e w1 ⟨rfl, hb1⟩
      obtain ⟨k0, k1⟩ := blk2 w (.cells #[.int .u32 a, .int .i64 n] 38) (.cells #[.int .u32 b, .int .i64 m] 38)
      have K0 := blk_below hb1 k0
      have K1 := blk_below hb1 k1
      obtain ⟨c0, c1, _, _⟩ := two_cells K0
      obtain ⟨c2, c3, _, _⟩ := two_cells K1
      have hbw1 := below_call (below2 w _ _) hb1
      have hsz1 := lt_of_block K1
      have HK0 := Lib.hid K0
      have HK1 := Lib.hid K1
      clear k0 k1 hb1 K0 K1
      go_wp2_with fail
      refine (addrIn_any _ _ _ _ h0 h1 h2 h3).mono ?_
      rintro e w2 ⟨rfl, hb2⟩
      have hbw2 := hbw1.trans (hb2.mono hbw1.size)
      go_wp2
      go_ret
      exact ⟨ret_bool hE.out, hbw2⟩
    · have hE := Lib.hid (within_2 a b hm)
      have hd2 : decide (m ≤ n) = false := by simp; omega
      clear hr
      go_enter Tryz.func60, Tryz.ntmps60
      go_wp2_with fail
      refine (addrCheck_any _ _ _ h0 h1).mono ?_
      rintro e w1 ⟨rfl, hb1⟩
      obtain ⟨k0, k1⟩ := blk2 w (.cells #[.int .u32 a, .int .i64 n] 38) (.cells #[.int .u32 b, .int .i64 m] 38)
      have K0 := blk_below hb1 k0
      have K1 := blk_below hb1 k1
      obtain ⟨c0, c1, _, _⟩ := two_cells K0
      obtain ⟨c2, c3, _, _⟩ := two_cells K1
      have hbw1 := below_call (below2 w _ _) hb1
      have hsz1 := lt_of_block K1
      have HK0 := Lib.hid K0
      have HK1 := Lib.hid K1
      clear k0 k1 hb1 K0 K1
      go_wp2
      go_ret
      exact ⟨ret_bool hE.out, hbw1⟩
  · have hd : (chk a n == 0) = false := by simp [hr]
    have hE := Lib.hid (within_1 b m hr)
    clear hr
    go_enter Tryz.func60, Tryz.ntmps60
    go_wp2_with fail
    refine (addrCheck_any _ _ _ h0 h1).mono ?_
    rintro e w1 ⟨rfl, hb1⟩
    obtain ⟨k0, k1⟩ := blk2 w (.cells #[.int .u32 a, .int .i64 n] 38) (.cells #[.int .u32 b, .int .i64 m] 38)
    have K0 := blk_below hb1 k0
    have K1 := blk_below hb1 k1
    obtain ⟨c0, c1, _, _⟩ := two_cells K0
    obtain ⟨c2, c3, _, _⟩ := two_cells K1
    have hbw1 := below_call (below2 w _ _) hb1
    have hsz1 := lt_of_block K1
    have HK0 := Lib.hid K0
    have HK1 := Lib.hid K1
    clear k0 k1 hb1 K0 K1
    go_wp2
    go_ret
    exact ⟨ret_bool hE.out, hbw1⟩

end Go.Proofs.YtehpkpjgkmbngaaGreat
