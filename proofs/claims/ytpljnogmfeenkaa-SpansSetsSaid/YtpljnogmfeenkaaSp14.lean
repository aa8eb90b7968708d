/-
  The walks of slices.Concat at spans and of spans.Or.
-/
import Derived.Test.YtpljnogmfeenkaaSp13
import Derived.Test.YtpljnogmfeenkaaShelf5
import Derived.Laws.AppendOwnNone
namespace Go.Proofs.Ytpljnogmfeenkaa
open Go Go.RowKit Go.Lib Go.Sort

/-- A slice without an address is nil. -/
def NilOk (v : Value) : Prop := ∀ n c, v = .slice none n c → n = 0 ∧ c = 0
theorem NilOk.of_own {w : World} {base : Nat} {e : TypeId} {size n : Nat} {v : Value} {xs : List Value} (h : w.ownsRow base e size v n xs) : NilOk v := by
  intro n' c' hv
  rcases h.2 with ⟨rfl, h0⟩ | ⟨g, cap, cur, rfl, _⟩
  · injection hv with _ h1 h2
    omega
  · cases hv
theorem grow_any (n : Nat) (w : World) (hlen : n ≤ 1099511627776) :
    Calls Try.prog 162 #[.slice none 0 0, .int .i64 n] w fun e w' => ∃ v, e = .returned v ∧ w'.ownsRow w.heap.size 37 2 v 0 [] ∧ Below w.heap.size w w' := by
  obtain ⟨i0, hi, hz0, hz1, hz2⟩ := info_parts Try.infoSpan
  rcases Nat.eq_zero_or_pos n with rfl | hn
  · have h := Any8.slices_Grow_room Try.growSpan none 0 0 0 w (Nat.le_refl _) (by omega) (by omega) (by omega)
    refine Calls.mono (P := Try.prog) h ?_
    rintro e w' ⟨rfl, rfl⟩
    exact ⟨_, rfl, owns_nil _ _ _ _, Below.refl _ _⟩
  · have h := Any8.slices_Grow_grow Try.growSpan i0 _ hi hz0 (by omega) none 0 0 n [] w (Nat.le_refl _) (by omega) (by rw [hz2]; omega) (by omega) (by simp) (fun _ => rfl) (fun a ha => by cases ha)
    refine Calls.mono (P := Try.prog) h ?_
    have hge := grownCap_ge w (0 + n) 0 (Try.growSpan_ren.t 25)
    have hle := grownCap_le_maxLen w (0 + n) 0 (Try.growSpan_ren.t 25) (by unfold maxLen; omega)
    rintro e w' ⟨rfl, rfl⟩
    refine ⟨_, rfl, owns_of_block (c := grownCap w (0 + n) 0 (Try.growSpan_ren.t 25)) (blk1 w.drew _) (Nat.zero_le _) hle ?_ (by simp) (by simp) (Nat.le_refl _), (below_drew1 (Below.refl _ _)).alloc (by show w.heap.size ≤ w.heap.size; omega) _⟩
    generalize grownCap w (0 + n) 0 (Try.growSpan_ren.t 25) = G at *
    rw [Array.size_append, Array.size_append, size_zeroCells, size_zeroCells, show (Value.agg #[.int .u32 0, .int .u32 0]).cells.size = 2 from rfl]
    simp
    omega
theorem allS_le (S : List SetV) (j : Nat) : (allS (S.take j)).length ≤ (allS S).length := by
  have e : allS S = allS (S.take j) ++ allS (S.drop j) := by unfold allS; rw [← List.flatMap_append, List.take_append_drop]
  rw [e, List.length_append]; omega

set_option maxRecDepth 100000 in
set_option maxHeartbeats 4000000 in
theorem concat_any (S : List SetV) (vs : Value) (w : World) (hS : SetsAt w w.heap.size vs S) (hnil : ∀ x ∈ S, NilOk x.v) (hlen : (allS S).length ≤ 1073741824) (hlen2 : S.length ≤ 1099511627776) :
    Calls Try.prog 139 #[vs] w (SetRes (allS S) w) := by
  obtain ⟨i0, hi, hz0, hz1, hz2⟩ := info_parts Try.infoSpan
  obtain ⟨A0, c0, rfl, hc0⟩ := hS.1.form
  have hv0 : ∀ W, Below w.heap.size w W → ∀ j x, S[j]? = some x → ∃ b off, A0 = some ⟨b, off, none⟩ ∧ W.cell? ⟨b, off + j, none⟩ = some x.v := by
    intro W hW j x hx
    have hj := (List.getElem?_eq_some_iff.1 hx).1
    obtain ⟨b, off, c', hv, _, _, hcell⟩ := (hS.1.below hW).pos (by omega)
    injection hv with hv1 _ _
    exact ⟨b, off, hv1, hcell j _ (by simp [svals, hx])⟩
  have HV0 := Lib.hid hv0
  have HS := Lib.hid hS
  have HN := Lib.hid hnil
  have HLE := Lib.hid (allS_le S)
  clear hv0 hS hnil
  go_enter Try.func139, Try.ntmps139
  go_upto_block 0 with fail
  go_cut [3] (fun s3 wx => wx = w ∧ s3 = .int .i64 ((allS S).length : Nat))
  case first =>
    go_wp2_with fail
    go_loop [3, 11] (fun n i => ∃ j : Nat, i = .int .i64 j ∧ j ≤ S.length ∧ n = .int .i64 ((allS (S.take j)).length : Nat)) (fun _ i => S.length - (intOf i).toNat)
    case atStart => exact ⟨0, rfl, by omega, rfl⟩
    case round =>
      obtain ⟨j, rfl, hj, rfl⟩ := hrel
      by_cases hlt : j < S.length
      · have hI : (j : Int) < (S.length : Int) := by omega
        obtain ⟨x, hx⟩ : ∃ x, S[j]? = some x := ⟨_, List.getElem?_eq_getElem hlt⟩
        obtain ⟨b, off, rfl, g0⟩ := HV0.out w (Below.refl _ _) j x hx
        have hxr := HS.out.2 x (List.mem_of_getElem? hx)
        obtain ⟨Ax, cx, hxv, hcx⟩ := hxr.form
        rw [hxv] at g0
        have hst : (allS (S.take (j + 1))).length = (allS (S.take j)).length + x.L.length := by rw [allS_succ hx, List.length_append]
        have hle := HLE.out (j + 1)
        rw [hst] at hle
        have HST := Lib.hid hst
        clear hst hx hxr hxv
        generalize (allS (S.take j)).length = n0 at *
        have hneg : ¬ ((n0 : Int) + (x.L.length : Int) < 0) := by omega
        go_wp2
        exact ⟨⟨j + 1, by go_num, by omega, by rw [HST.out]; go_num⟩, by simp only [intOf]; omega⟩
      · obtain rfl : j = S.length := by omega
        rw [List.take_length]
        go_wp2
        go_meet
        exact ⟨rfl, rfl⟩
  case rest =>
    obtain ⟨rfl, rfl⟩ := hcut
    go_wp2_with fail
    refine (grow_any (allS S).length wc (by omega)).mono ?_
    rintro e w1 ⟨v1, rfl, hown1, hb1⟩
    go_wp2_with fail
    go_loopw [6, 27] (fun v i wr => ∃ j : Nat, i = .int .i64 j ∧ j ≤ S.length ∧ wr.ownsRow wc.heap.size 37 2 v (allS (S.take j)).length (scells (allS (S.take j))) ∧ Below wc.heap.size wc wr) (fun _ i _ => S.length - (intOf i).toNat)
    case atStart => exact ⟨0, rfl, by omega, hown1, hb1⟩
    case round =>
      clear hown1 hb1
      obtain ⟨j, rfl, hj, hown, hnx⟩ := hrel
      have hsz := hnx.size
      by_cases hlt : j < S.length
      · have hI : (j : Int) < (S.length : Int) := by omega
        obtain ⟨x, hx⟩ : ∃ x, S[j]? = some x := ⟨_, List.getElem?_eq_getElem hlt⟩
        obtain ⟨b, off, rfl, g0⟩ := HV0.out wr hnx j x hx
        have hxm := List.mem_of_getElem? hx
        have hxr := (HS.out.2 x hxm).below hnx
        obtain ⟨Ax, cx, hxv, hcx⟩ := hxr.form
        have hxn := HN.out x hxm
        rw [hxv] at g0 hxr hxn
        have HST := Lib.hid (allS_succ hx)
        have hle := HLE.out (j + 1)
        rw [HST.out, List.length_append] at hle
        clear hx hxv hxm
        generalize allS (S.take j) = T at *
        rcases Ax with _ | ad
        · obtain ⟨h0, rfl⟩ := hxn _ _ rfl
          have hL0 : x.L = [] := List.eq_nil_of_length_eq_zero h0
          rw [h0] at g0
          have HL0 := Lib.hid hL0
          clear hxr hxn h0 hL0
          go_wp2_with (at_builtin; refine wpList_append_own_none rfl _ _ 79 rfl wc.heap.size 37 i0 2 Try.underlying79 hi u6 _ _ rfl hown rfl ?_)
          refine ⟨⟨j + 1, by go_num, by omega, ?_, hnx⟩, by simp only [intOf]; omega⟩
          rw [HST.out, HL0.out, List.append_nil]
          exact hown
        · have hsrc : ∀ (k : Nat) (u : Value), (scells x.L)[k]? = some u → wr.cell? (ad.add k) = some u := by
            intro k u hu
            have hk := (List.getElem?_eq_some_iff.1 hu).1
            rw [scells_len] at hk
            obtain ⟨b2, o2, c2, hv, _, _, hcell⟩ := hxr.pos (by omega)
            injection hv with hv _ _
            injection hv with hv
            subst hv
            have e : (⟨b2, o2, none⟩ : Addr).add k = ⟨b2, o2 + k, none⟩ := by simp [Addr.add]
            rw [e]; exact hcell k u hu
          have HSRC := Lib.hid hsrc
          clear hsrc hxr hxn
          go_wp2_with (at_builtin; refine wpList_append_own _ rfl _ _ 79 rfl wc.heap.size 37 i0 _ 2 8 Try.underlying79 hi hz0 hz1 hz2 rfl (by decide) u6 _ _ rfl hown ad x.L.length cx (scells x.L) rfl (scells_len _) HSRC.out (scells_one _) (by unfold maxLen; omega) (by omega) hsz ?_; intro v2 w2 hown2 hgr _)
          refine ⟨⟨j + 1, by go_num, by omega, ?_, below_row hnx hown hgr hsz (Nat.le_refl _)⟩, by simp only [intOf]; omega⟩
          rw [HST.out, List.length_append, scells_append]
          exact hown2
      · obtain rfl : j = S.length := by omega
        rw [List.take_length] at hown
        go_wp2
        go_ret
        exact ⟨_, rfl, hown, hnx⟩

theorem theSet_or (L M : List SpanV) : theSet (fun x => hasB L x || hasB M x) = formOf (L ++ M) := theSet_form (fun x => hasB_append L M x)
set_option maxRecDepth 100000 in
set_option maxHeartbeats 4000000 in
theorem or_any (L M : List SpanV) (vl vm : Value) (w : World) (hl : Rd w w.heap.size 2 vl L.length (scells L)) (hm : Rd w w.heap.size 2 vm M.length (scells M)) (hnl : NilOk vl) (hnm : NilOk vm) (hlen : L.length ≤ 268435456) (hlen2 : M.length ≤ 268435456) :
    Calls Try.prog 83 #[vl, vm] w (SetRes (theSet (fun x => hasB L x || hasB M x)) w) := by
  obtain ⟨Al, cl, rfl, _⟩ := hl.form
  obtain ⟨Am, cm, rfl, _⟩ := hm.form
  have hA : allS [⟨.slice Al L.length cl, L⟩, ⟨.slice Am M.length cm, M⟩] = L ++ M := by simp [allS]
  have hsets : SetsAt (w.alloc (.cells #[.slice Al L.length cl, .slice Am M.length cm] 79)) (w.alloc (.cells #[.slice Al L.length cl, .slice Am M.length cm] 79)).heap.size (.slice (some ⟨w.heap.size, 0, none⟩) 2 2) [⟨.slice Al L.length cl, L⟩, ⟨.slice Am M.length cm, M⟩] := by
    refine ⟨Rd.of_blk (cs := #[.slice Al L.length cl, .slice Am M.length cm]) (blk1 w _) (by decide) rfl, fun x hx => ?_⟩
    simp at hx
    rcases hx with rfl | rfl
    · exact (hl.below (below1 w _)).mono (by simp)
    · exact (hm.below (below1 w _)).mono (by simp)
  have hcon := concat_any [⟨.slice Al L.length cl, L⟩, ⟨.slice Am M.length cm, M⟩] _ _ hsets (fun x hx => by
    simp at hx
    rcases hx with rfl | rfl
    · exact hnl
    · exact hnm) (by rw [hA, List.length_append]; omega) (by simp)
  rw [hA] at hcon
  have HC := Lib.hid hcon
  have HB := Lib.hid (below1 w (.cells #[.slice Al L.length cl, .slice Am M.length cm] 79))
  have HE := Lib.hid (theSet_or L M)
  have hlm : (L ++ M).length ≤ 1099511627776 := by rw [List.length_append]; omega
  clear hcon hsets hl hm hnl hnm
  go_enter Try.func83, Try.ntmps83
  go_wp2_with fail
  refine HC.out.mono ?_
  rintro e w1 ⟨v1, rfl, hown1, hb1⟩
  have hr1 := Rd.of_own hown1
  have hbw := below_call HB.out hb1
  clear hown1
  go_wp2_with fail
  refine (form_any _ v1 w1 hr1 hlm).mono ?_
  rintro e w2 ⟨v2, rfl, hown2, hb2⟩
  have hbw2 := below_call hbw hb2
  have hsz := hbw.size
  go_wp2
  go_ret
  unfold SetRes
  rw [HE.out]
  exact ⟨_, rfl, owns_base hown2 hsz, hbw2⟩

end Go.Proofs.Ytpljnogmfeenkaa
