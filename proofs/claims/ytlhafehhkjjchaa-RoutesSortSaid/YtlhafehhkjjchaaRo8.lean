/-
  slices.Clone at routes, routes.Sort.
-/
import Derived.Test.YtlhafehhkjjchaaRo7
import Derived.Deep.Onto
import Derived.Laws.OwnMore
namespace Go.Proofs.Ytlhafehhkjjchaa
open Go Go.RowKit Go.Lib Go.Sort

/-- What a clone is: a row of its own. -/
def CloneRt (L : List RouteV) (w : World) (e : Ending) (w' : World) : Prop :=
  ∃ v', e = .returned v' ∧ w'.ownsRow w.heap.size 28 9 v' L.length (rvcells L) ∧ Below w.heap.size w w'
set_option maxRecDepth 100000 in
set_option maxHeartbeats 1000000 in
theorem cloneRoute_any (L : List RouteV) (v : Value) (w : World) (h : Rd w w.heap.size 9 v L.length (rvcells L)) (hbig : L.length ≤ 549755813888) :
    Calls Try.prog 25 #[v] w fun e w' => CloneRt L w e w' := by
  obtain ⟨i0, hi, hz0, hz1, hz2⟩ := info_parts Try.infoRoute
  rcases Nat.eq_zero_or_pos L.length with h0 | h0
  · obtain rfl : L = [] := List.eq_nil_of_length_eq_zero h0
    obtain ⟨A, c, rfl, hc⟩ := h.form
    rcases A with _ | ad
    · exact (AnyE.slices_Clone_nil Try.cloneRoute _ c w).mono fun e w' ⟨he, hw⟩ => ⟨_, he, by subst hw; exact owns_nil _ _ _ _, by subst hw; exact Below.refl _ _⟩
    · clear h
      go_enter Try.func25, Try.ntmps25
      have q : ∀ w, (binOp .eql 22 (.slice (some ad) 0 c) (.slice none 0 0)).run Try.prog w = .ok (.bool false) w := fun w => Lib.run_eql_slice_nil w _ _ (some ad) 0 c 0 0 Try.underlying22
      have hmade : (w.alloc (.cells #[] 28)).ownsRow w.heap.size 28 9 (.slice (some ⟨w.heap.size, 0, none⟩) 0 0) 0 [] := World.ownsRow_made w #[] 0 (Nat.le_refl _) (Nat.zero_le _) (by simp)
      have HM := Lib.hid hmade
      clear hmade
      go_wp2
      go_ret
      exact ⟨_, rfl, HM.out, below1 w _⟩
  · obtain ⟨b, off, c, rfl, hc, hbB, hcell⟩ := h.pos h0
    have := AnyE.slices_Clone Try.cloneRoute i0 _ 9 72 hi hz0 hz1 hz2 rfl (by decide) Try.sizeOf28 b off L.length c (rvcells L) w (flat_len RouteV.enc 9 route_len L) (by unfold maxLen; omega) (by omega) hcell (rvcells_one L)
    exact this.mono fun e w' ⟨v', he, hown, _, hb⟩ => ⟨v', he, hown, hb⟩
theorem sorted_dd {L D : List RouteV} (hp : D.Perm L) (hs : D.Pairwise (fun x y => cmpR x y ≤ 0)) : Sorted L (ddTo D D.length) := by
  obtain ⟨h1, h2⟩ := dd_sorted hs D.length (Nat.le_refl _)
  exact ⟨h1, fun x => by rw [h2, List.take_length]; exact hp.mem_iff⟩
set_option maxRecDepth 100000 in
set_option maxHeartbeats 1000000 in
theorem sortR_any (L : List RouteV) (v : Value) (w : World) (h : Rd w w.heap.size 9 v L.length (rvcells L)) (hlen : L.length ≤ 549755813888) :
    Calls Try.prog 8 #[v] w (SortRes L w) := by
  have HL := Lib.hid h
  clear h
  go_enter Try.func8, Try.ntmps8
  go_wp2_with fail
  refine (cloneRoute_any L v w HL.out hlen).mono ?_
  rintro e w1 ⟨v1, rfl, own1, hb1⟩
  go_wp2_with fail
  refine (sortRoute_any L v1 w.heap.size w1 own1 (by omega)).mono ?_
  rintro e w2 ⟨rfl, D, hp, hs, own2, hb2⟩
  have hD := hp.length_eq
  have hb12 := hb1.trans (hb2 w.heap.size (Nat.le_refl _) hb1.size)
  go_wp2_with fail
  refine (compactR_any D v1 w.heap.size w.heap.size w2 own2 (by omega) (Nat.le_refl _) hb12.size).mono ?_
  rintro e w3 ⟨v3, rfl, own3, hb3⟩
  go_wp2
  go_ret
  have hdl := dd_len D D.length
  exact ⟨_, _, rfl, sorted_dd hp hs, by omega, own3, hb12.trans hb3⟩
end Go.Proofs.Ytlhafehhkjjchaa
