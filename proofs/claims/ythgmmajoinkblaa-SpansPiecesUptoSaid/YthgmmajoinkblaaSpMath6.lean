/-
  The pieces one by one: where each begins and ends, what is alike in it. No program in sight.
-/
import Derived.Test.YthgmmajoinkblaaSpMath5
namespace Go.Proofs.Ythgmmajoinkblaa

theorem pcs_cons (most a x : Int) (r : List Int) : pcs most a (x :: r) = spanAt a (x - 1) :: pcs most x r := rfl
/-- Where the i-th piece begins, and where the next begins. -/
def pbeg (a : Int) (C : List Int) (i : Nat) : Int := (a :: C).getD i 0
def pend (most : Int) (C : List Int) (i : Nat) : Int := (C ++ [most + 1]).getD i 0 - 1
theorem pcs_get (most : Int) : ∀ (C : List Int) (a : Int) (i : Nat), i < C.length + 1 → (pcs most a C)[i]? = some (spanAt (pbeg a C i) (pend most C i))
  | [], a, i, h => by
    obtain rfl : i = 0 := by simpa using h
    show some (spanAt a most) = some (spanAt a (most + 1 - 1))
    rw [show most + 1 - 1 = most by omega]
  | x :: r, a, 0, _ => rfl
  | x :: r, a, i + 1, h => by
    rw [pcs_cons, List.getElem?_cons_succ, pcs_get most r x i (by simpa using h)]
    rfl
theorem pbeg_succ (a : Int) (C : List Int) {i : Nat} (most : Int) (h : i < C.length) : pbeg a C (i + 1) = pend most C i + 1 := by
  unfold pbeg pend
  simp only [List.getD_eq_getElem?_getD, List.getElem?_cons_succ]
  rw [List.getElem?_append_left h]
  omega
theorem pend_last (most : Int) (C : List Int) : pend most C C.length = most := by
  unfold pend
  simp only [List.getD_eq_getElem?_getD]
  rw [List.getElem?_append_right (Nat.le_refl _), Nat.sub_self]
  show most + 1 - 1 = most
  omega
theorem pbeg_mem (a : Int) {C : List Int} {i : Nat} (h : i < C.length) : pbeg a C (i + 1) ∈ C := by
  unfold pbeg
  simp only [List.getD_eq_getElem?_getD, List.getElem?_cons_succ, List.getElem?_eq_getElem h]
  exact List.getElem_mem h
theorem StartsOf.bounds {most : Int} (hm : 0 ≤ most) {T : List (List SpanV)} {C : List Int} (h : StartsOf most T C) {i : Nat} (hi : i < C.length + 1) :
    0 ≤ pbeg 0 C i ∧ pbeg 0 C i ≤ pend most C i ∧ pend most C i ≤ most ∧ (∀ y ∈ C, ¬ (pbeg 0 C i < y ∧ y ≤ pend most C i)) := by
  have hb : ∀ j, j < C.length → 0 < pbeg 0 C (j + 1) ∧ pbeg 0 C (j + 1) ≤ most := fun j hj => by
    have := (h.2 _).1 (pbeg_mem 0 hj)
    exact ⟨this.1, this.2.1⟩
  have h0 : 0 ≤ pbeg 0 C i := by
    cases i with
    | zero => exact Int.le_refl _
    | succ j => have := hb j (by omega); omega
  have hget : ∀ j (hj : j < C.length), pbeg 0 C (j + 1) = C[j] := fun j hj => by
    unfold pbeg
    simp only [List.getD_eq_getElem?_getD, List.getElem?_cons_succ, List.getElem?_eq_getElem hj]
    rfl
  rcases Nat.lt_or_ge i C.length with hlt | hge
  · have e := pbeg_succ 0 C most hlt
    have hn := hget i hlt
    have hb1 := hb i hlt
    have hlo : pbeg 0 C i < C[i] := by
      cases i with
      | zero => show (0 : Int) < _; rw [← hn]; exact hb1.1
      | succ j =>
        rw [hget j (by omega)]
        exact List.pairwise_iff_getElem.1 h.1 j (j + 1) (by omega) hlt (by omega)
    refine ⟨h0, by omega, by omega, fun y hy hh => ?_⟩
    obtain ⟨k, hk, rfl⟩ := List.getElem_of_mem hy
    have hki : k < i := by
      rcases Nat.lt_or_ge k i with hk2 | hk2
      · exact hk2
      · rcases Nat.eq_or_lt_of_le hk2 with rfl | hk3
        · omega
        · have := List.pairwise_iff_getElem.1 h.1 i k hlt hk hk3; omega
    cases i with
    | zero => omega
    | succ j =>
      rw [hget j (by omega)] at hh
      rcases Nat.eq_or_lt_of_le (show k ≤ j by omega) with rfl | hkj
      · omega
      · have := List.pairwise_iff_getElem.1 h.1 k j hk (by omega) hkj; omega
  · obtain rfl : i = C.length := by omega
    rw [pend_last]
    refine ⟨h0, ?_, Int.le_refl _, fun y hy hh => ?_⟩
    · cases hC : C.length with
      | zero => rw [show pbeg 0 C 0 = 0 from rfl]; exact hm
      | succ j => have := hb j (by omega); omega
    · obtain ⟨k, hk, rfl⟩ := List.getElem_of_mem hy
      cases hC : C.length with
      | zero => omega
      | succ j =>
        rw [hC, hget j (by omega)] at hh
        rcases Nat.eq_or_lt_of_le (show k ≤ j by omega) with rfl | hkj
        · omega
        · have := List.pairwise_iff_getElem.1 h.1 k j hk (by omega) hkj; omega
theorem same_upto {most : Int} {T : List (List SpanV)} {C : List Int} (h : StartsOf most T C) {L : List SpanV} (hL : L ∈ T) {l : Int} (hl : 0 ≤ l) :
    ∀ n : Nat, l + n ≤ most → (∀ y ∈ C, ¬ (l < y ∧ y ≤ l + n)) → hasB L (l + n) = hasB L l
  | 0, _, _ => by rw [show l + ((0 : Nat) : Int) = l by omega]
  | n + 1, hm, hC => by
    rw [← same_upto h hL hl n (by omega) (fun y hy hh => hC y hy (by omega))]
    by_cases he : hasB L (l + ((n + 1 : Nat) : Int)) = hasB L (l + n)
    · exact he
    · exfalso
      refine hC _ ((h.2 _).2 ⟨?_, hm, ?_⟩) ⟨?_, Int.le_refl _⟩
      · omega
      · refine List.any_eq_true.2 ⟨L, hL, ?_⟩
        rw [show l + ((n + 1 : Nat) : Int) - 1 = l + n by omega]
        simpa [bne] using he
      · omega
/-- Of one piece all numbers are in the same sets. -/
theorem StartsOf.alike {most : Int} (hm : 0 ≤ most) {T : List (List SpanV)} {C : List Int} (h : StartsOf most T C) {i : Nat} (hi : i < C.length + 1) {L : List SpanV} (hL : L ∈ T) {x : Int} (h1 : pbeg 0 C i ≤ x) (h2 : x ≤ pend most C i) :
    hasB L x = hasB L (pbeg 0 C i) := by
  obtain ⟨b0, b1, b2, b3⟩ := h.bounds hm hi
  obtain ⟨n, hn⟩ : ∃ n : Nat, x = pbeg 0 C i + n := ⟨(x - pbeg 0 C i).toNat, by omega⟩
  subst hn
  exact same_upto h hL b0 n (by omega) (fun y hy hh => b3 y hy (by omega))
/-- Where a piece begins that is not the first, some set turns. -/
theorem StartsOf.turned {most : Int} {T : List (List SpanV)} {C : List Int} (h : StartsOf most T C) {i : Nat} (hi : i < C.length) : turnB T (pbeg 0 C (i + 1)) = true :=
  ((h.2 _).1 (pbeg_mem 0 hi)).2.2
/-- The numbers of the pieces are those up to the greatest. -/
theorem StartsOf.count {most : Int} {C : List Int} : ∀ k, k ≤ C.length → ((List.range (k + 1)).map fun i => pend most C i - pbeg 0 C i + 1).sum = pend most C k + 1
  | 0, _ => by
    show pend most C 0 - pbeg 0 C 0 + 1 + 0 = _
    rw [show pbeg 0 C 0 = 0 from rfl]
    omega
  | k + 1, h => by
    rw [List.range_succ, List.map_append, List.sum_append, StartsOf.count k (by omega)]
    have := pbeg_succ 0 C most (show k < C.length by omega)
    show _ + (pend most C (k + 1) - pbeg 0 C (k + 1) + 1 + 0) = _
    omega
end Go.Proofs.Ythgmmajoinkblaa
