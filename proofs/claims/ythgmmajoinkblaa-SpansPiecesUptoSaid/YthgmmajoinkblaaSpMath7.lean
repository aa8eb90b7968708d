/-
  A piece with all that is true of it; how many pieces there are at most. No program in sight.
-/
import Derived.Test.YthgmmajoinkblaaSpMath6
namespace Go.Proofs.Ythgmmajoinkblaa

/-- The numbers of the first i pieces. -/
def nAt (most : Int) (C : List Int) (i : Nat) : Int := if i ≤ C.length then pbeg 0 C i else most + 1
theorem nAt_zero (most : Int) (C : List Int) : nAt most C 0 = 0 := by simp [nAt, pbeg]
theorem nAt_succ (most : Int) (C : List Int) {i : Nat} (h : i < C.length + 1) : nAt most C (i + 1) = pend most C i + 1 := by
  unfold nAt
  by_cases h1 : i + 1 ≤ C.length
  · rw [if_pos h1]
    exact pbeg_succ 0 C most (by omega)
  · rw [if_neg h1]
    obtain rfl : i = C.length := by omega
    rw [pend_last]
theorem nAt_at (most : Int) (C : List Int) {i : Nat} (h : i < C.length + 1) : nAt most C i = pbeg 0 C i := by
  unfold nAt
  rw [if_pos (by omega)]
theorem nAt_end (most : Int) (C : List Int) : nAt most C (C.length + 1) = most + 1 := by
  unfold nAt
  rw [if_neg (by omega)]
structure PieceAt (most : Int) (T : List (List SpanV)) (C : List Int) (i : Nat) (s : SpanV) : Prop where
  at_ : (pcs most 0 C)[i]? = some s
  lo0 : 0 ≤ s.lo
  le : s.lo ≤ s.hi
  hi : s.hi ≤ most
  alike : ∀ L ∈ T, ∀ x, s.lo ≤ x → x ≤ s.hi → hasB L x = hasB L s.lo
  turn : 0 < i → turnB T s.lo = true ∧ 0 < s.lo ∧ ∃ p, (pcs most 0 C)[i - 1]? = some p ∧ p.hi + 1 = s.lo
  first : i = 0 → s.lo = 0
  last : i = C.length → s.hi = most
  n0 : nAt most C i = s.lo
  n1 : nAt most C (i + 1) = s.hi + 1
theorem spanAt_lo {a b : Int} (h : 0 ≤ a ∧ a < 4294967296) : (spanAt a b).lo = a := Int.emod_eq_of_lt h.1 h.2
theorem spanAt_hi {a b : Int} (h : 0 ≤ b ∧ b < 4294967296) : (spanAt a b).hi = b := Int.emod_eq_of_lt h.1 h.2
theorem StartsOf.piece {most : Int} (hm : 0 ≤ most ∧ most < 4294967296) {T : List (List SpanV)} {C : List Int} (h : StartsOf most T C) {i : Nat} (hi : i < C.length + 1) : ∃ s, PieceAt most T C i s := by
  obtain ⟨b0, b1, b2, _⟩ := h.bounds hm.1 hi
  have e1 : (spanAt (pbeg 0 C i) (pend most C i)).lo = pbeg 0 C i := spanAt_lo ⟨b0, by omega⟩
  have e2 : (spanAt (pbeg 0 C i) (pend most C i)).hi = pend most C i := spanAt_hi ⟨by omega, by omega⟩
  refine ⟨spanAt (pbeg 0 C i) (pend most C i), pcs_get most C 0 i hi, by omega, by omega, by omega, ?_, ?_, ?_, ?_, ?_, ?_⟩
  · intro L hL x h1 h2
    rw [e1] at h1 ⊢
    rw [e2] at h2
    exact h.alike hm.1 hi hL h1 h2
  · intro h0
    obtain ⟨k, rfl⟩ : ∃ k, i = k + 1 := ⟨i - 1, by omega⟩
    have hp := pbeg_mem 0 (C := C) (show k < C.length by omega)
    have hq := (h.2 _).1 hp
    rw [e1]
    refine ⟨hq.2.2, hq.1, spanAt (pbeg 0 C k) (pend most C k), pcs_get most C 0 k (by omega), ?_⟩
    obtain ⟨c0, c1, c2, _⟩ := h.bounds hm.1 (show k < C.length + 1 by omega)
    rw [spanAt_hi ⟨by omega, by omega⟩]
    exact (pbeg_succ 0 C most (by omega)).symm
  · rintro rfl
    rw [e1]; rfl
  · rintro rfl
    rw [e2, pend_last]
  · rw [e1]; exact nAt_at most C hi
  · rw [e2]; exact nAt_succ most C hi
/-- A list without repeats, all of another list, is no longer than that. -/
theorem nodup_len : ∀ {A B : List Int}, A.Nodup → (∀ x ∈ A, x ∈ B) → A.length ≤ B.length
  | [], _, _, _ => by simp
  | a :: r, B, hn, hs => by
    have hn' := List.nodup_cons.1 hn
    have ha := hs a (List.mem_cons_self ..)
    have h1 : ∀ x ∈ r, x ∈ B.erase a := fun x hx => by
      have hxa : x ≠ a := fun e => hn'.1 (e ▸ hx)
      exact (List.mem_erase_of_ne hxa).2 (hs x (List.mem_cons_of_mem _ hx))
    have h2 := nodup_len hn'.2 h1
    rw [List.length_erase_of_mem ha] at h2
    have := List.length_pos_of_mem ha
    simp only [List.length_cons]
    omega
def marks (S : List SpanV) : List Int := S.flatMap fun s => [s.lo, s.hi + 1]
theorem marks_len : ∀ S : List SpanV, (marks S).length = 2 * S.length
  | [] => rfl
  | s :: r => by
    show (marks r).length + 1 + 1 = 2 * (r.length + 1)
    rw [marks_len r]; omega
theorem StartsOf.len {most : Int} {T : List (List SpanV)} {C : List Int} (h : StartsOf most T C) : C.length ≤ 2 * T.flatten.length := by
  rw [← marks_len]
  refine nodup_len (h.1.imp fun {a b} hab => by omega) fun x hx => ?_
  obtain ⟨_, _, ht⟩ := (h.2 x).1 hx
  unfold turnB at ht
  obtain ⟨L, hL, hh⟩ := List.any_eq_true.1 ht
  obtain ⟨s, hs, _, ho⟩ := turn_mark (L := L) (x := x) (by simpa [bne] using hh)
  refine List.mem_flatMap.2 ⟨s, List.mem_flatten.2 ⟨L, hL, hs⟩, ?_⟩
  simpa using ho
end Go.Proofs.Ythgmmajoinkblaa
