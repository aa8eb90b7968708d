/-
  Numbers cut where sets begin or end: the starts, the pieces. No program in sight.
-/
import Derived.Test.YthgmmajoinkblaaSpMath4
namespace Go.Proofs.Ythgmmajoinkblaa

theorem rising_ext : ∀ {A B : List Int}, Rising A → Rising B → (∀ x, x ∈ A ↔ x ∈ B) → A = B
  | [], [], _, _, _ => rfl
  | [], b :: q, _, _, h => by have := (h b).2 (List.mem_cons_self ..); simp at this
  | a :: r, [], _, _, h => by have := (h a).1 (List.mem_cons_self ..); simp at this
  | a :: r, b :: q, hA, hB, h => by
    have hA' := List.pairwise_cons.1 hA
    have hB' := List.pairwise_cons.1 hB
    have hab : a = b := by
      rcases List.mem_cons.1 ((h a).1 (List.mem_cons_self ..)) with h1 | h1
      · exact h1
      · rcases List.mem_cons.1 ((h b).2 (List.mem_cons_self ..)) with h2 | h2
        · exact h2.symm
        · have := hB'.1 a h1; have := hA'.1 b h2; omega
    subst hab
    congr 1
    refine rising_ext hA'.2 hB'.2 fun x => ?_
    constructor
    · intro hx
      rcases List.mem_cons.1 ((h x).1 (List.mem_cons_of_mem _ hx)) with rfl | h2
      · have := hA'.1 x hx; omega
      · exact h2
    · intro hx
      rcases List.mem_cons.1 ((h x).2 (List.mem_cons_of_mem _ hx)) with rfl | h2
      · have := hB'.1 x hx; omega
      · exact h2

/-- In some set the number's membership is not the one of the number before it. -/
def turnB (T : List (List SpanV)) (x : Int) : Bool := T.any fun L => hasB L x != hasB L (x - 1)
def StartsOf (most : Int) (T : List (List SpanV)) (C : List Int) : Prop := Rising C ∧ ∀ x, x ∈ C ↔ 0 < x ∧ x ≤ most ∧ turnB T x = true
theorem StartsOf.unique {most : Int} {T : List (List SpanV)} {A B : List Int} (hA : StartsOf most T A) (hB : StartsOf most T B) : A = B :=
  rising_ext hA.1 hB.1 fun x => (hA.2 x).trans (hB.2 x).symm
theorem nf_apart : ∀ {r : List SpanV}, NF r → ∀ {u s : SpanV}, u ∈ r → s ∈ r → u = s ∨ u.hi + 1 < s.lo ∨ s.hi + 1 < u.lo
  | [], _, _, _, hu, _ => by simp at hu
  | t :: q, h, u, s, hu, hs => by
    rcases List.mem_cons.1 hs with hst | hsq
    · rcases List.mem_cons.1 hu with hut | huq
      · exact .inl (hut.trans hst.symm)
      · subst hst; exact .inr (.inr (h.2.1 u huq))
    · rcases List.mem_cons.1 hu with hut | huq
      · subst hut; exact .inr (.inl (h.2.1 s hsq))
      · exact nf_apart h.2.2 huq hsq
theorem nf_at {A : List SpanV} (h : NF A) {s : SpanV} (hs : s ∈ A) : hasB A (s.lo - 1) = false ∧ hasB A (s.hi + 1) = false := by
  have hsok := h.ok s hs
  constructor
  · rw [Bool.eq_false_iff]
    intro hh
    obtain ⟨u, hu, h1, h2⟩ := hasB_iff.1 hh
    have := h.ok u hu
    rcases nf_apart h hu hs with rfl | h3 | h3 <;> omega
  · rw [Bool.eq_false_iff]
    intro hh
    obtain ⟨u, hu, h1, h2⟩ := hasB_iff.1 hh
    have := h.ok u hu
    rcases nf_apart h hu hs with rfl | h3 | h3 <;> omega
theorem nf_turn {A : List SpanV} (h : NF A) (x : Int) : hasB A x ≠ hasB A (x - 1) ↔ ∃ s ∈ A, x = s.lo ∨ x = s.hi + 1 := by
  constructor
  · intro hne
    by_cases h1 : hasB A x = true
    · obtain ⟨s, hs, h2, h3⟩ := hasB_iff.1 h1
      by_cases hx : x = s.lo
      · exact ⟨s, hs, .inl hx⟩
      · exact absurd (h1.trans (hasB_iff.2 ⟨s, hs, by omega, by omega⟩).symm) hne
    · have h1' : hasB A x = false := by simpa using h1
      have h0 : hasB A (x - 1) = true := by
        cases hh : hasB A (x - 1) with
        | true => rfl
        | false => exact absurd (h1'.trans hh.symm) hne
      obtain ⟨s, hs, h2, h3⟩ := hasB_iff.1 h0
      by_cases hx : x = s.hi + 1
      · exact ⟨s, hs, .inr hx⟩
      · exact absurd (hasB_iff.2 ⟨s, hs, by omega, by omega⟩) h1
  · rintro ⟨s, hs, hx⟩
    have hok := h.ok s hs
    obtain ⟨i1, i2⟩ := nf_at h hs
    rcases hx with rfl | rfl
    · rw [i1, hasB_iff.2 ⟨s, hs, Int.le_refl _, hok⟩]; simp
    · rw [i2, show s.hi + 1 - 1 = s.hi by omega, hasB_iff.2 ⟨s, hs, hok, Int.le_refl _⟩]; simp

/-- The list behind a number that may be a cut. -/
def noted (most : Int) (L : List Int) (x : Int) : List Int := if 0 < x ∧ x ≤ most then L ++ [x] else L
theorem noted_mem (most : Int) (L : List Int) (x y : Int) : y ∈ noted most L x ↔ y ∈ L ∨ (y = x ∧ 0 < y ∧ y ≤ most) := by
  unfold noted
  split
  · rw [List.mem_append, List.mem_singleton]
    constructor
    · rintro (h | rfl)
      · exact .inl h
      · exact .inr ⟨rfl, by assumption⟩
    · rintro (h | ⟨h, _⟩)
      · exact .inl h
      · exact .inr h
  · constructor
    · exact .inl
    · rintro (h | ⟨rfl, h⟩)
      · exact h
      · exact absurd h (by assumption)
theorem noted_len (most : Int) (L : List Int) (x : Int) : (noted most L x).length ≤ L.length + 1 := by
  unfold noted; split <;> simp
/-- The numbers noted of spans. -/
def Noted (most : Int) (S : List SpanV) (D : List Int) : Prop := (∀ x, x ∈ D ↔ ∃ s ∈ S, (x = s.lo ∨ x = s.hi + 1) ∧ 0 < x ∧ x ≤ most) ∧ D.length ≤ 2 * S.length
theorem Noted.nil (most : Int) : Noted most [] [] := ⟨fun x => by simp, by simp⟩
theorem Noted.snoc {most : Int} {S : List SpanV} {D : List Int} (h : Noted most S D) (s : SpanV) : Noted most (S ++ [s]) (noted most (noted most D s.lo) (s.hi + 1)) := by
  refine ⟨fun x => ?_, ?_⟩
  · rw [noted_mem, noted_mem, h.1]
    constructor
    · rintro ((⟨t, ht, hh⟩ | ⟨rfl, hh⟩) | ⟨rfl, hh⟩)
      · exact ⟨t, List.mem_append_left _ ht, hh⟩
      · exact ⟨s, List.mem_append_right _ (List.mem_singleton.2 rfl), .inl rfl, hh⟩
      · exact ⟨s, List.mem_append_right _ (List.mem_singleton.2 rfl), .inr rfl, hh⟩
    · rintro ⟨t, ht, ho, hh⟩
      rcases List.mem_append.1 ht with ht | ht
      · exact .inl (.inl ⟨t, ht, ho, hh⟩)
      · obtain rfl := List.mem_singleton.1 ht
        rcases ho with rfl | rfl
        · exact .inl (.inr ⟨rfl, hh⟩)
        · exact .inr ⟨rfl, hh⟩
  · have := noted_len most D s.lo
    have := noted_len most (noted most D s.lo) (s.hi + 1)
    have := h.2
    simp only [List.length_append, List.length_singleton]
    omega
theorem Noted.starts {most : Int} {T : List (List SpanV)} {D C : List Int} (h : Noted most (T.flatMap formOf) D) (hr : Rising C) (hm : ∀ x, x ∈ C ↔ x ∈ D) : StartsOf most T C := by
  refine ⟨hr, fun x => ?_⟩
  rw [hm, h.1]
  unfold turnB
  rw [List.any_eq_true]
  constructor
  · rintro ⟨s, hs, ho, h1, h2⟩
    obtain ⟨L, hL, hsL⟩ := List.mem_flatMap.1 hs
    refine ⟨h1, h2, L, hL, ?_⟩
    have := (nf_turn (formOf_ok L).1 x).2 ⟨s, hsL, ho⟩
    rw [(formOf_ok L).2, (formOf_ok L).2] at this
    simpa [bne] using this
  · rintro ⟨h1, h2, L, hL, hh⟩
    have hne : hasB L x ≠ hasB L (x - 1) := by simpa [bne] using hh
    rw [← (formOf_ok L).2, ← (formOf_ok L).2 (x - 1)] at hne
    obtain ⟨s, hs, ho⟩ := (nf_turn (formOf_ok L).1 x).1 hne
    exact ⟨s, List.mem_flatMap.2 ⟨L, hL, hs⟩, ho, h1, h2⟩
/-- A number at which a set turns is the mark of one of its spans. -/
theorem turn_mark {L : List SpanV} {x : Int} (h : hasB L x ≠ hasB L (x - 1)) : ∃ s ∈ L, s.lo ≤ s.hi ∧ (x = s.lo ∨ x = s.hi + 1) := by
  by_cases h1 : hasB L x = true
  · obtain ⟨s, hs, h2, h3⟩ := hasB_iff.1 h1
    refine ⟨s, hs, by omega, ?_⟩
    by_cases hx : x = s.lo
    · exact .inl hx
    · exact absurd (h1.trans (hasB_iff.2 ⟨s, hs, by omega, by omega⟩).symm) h
  · have h1' : hasB L x = false := by simpa using h1
    have h0 : hasB L (x - 1) = true := by
      cases hh : hasB L (x - 1) with
      | true => rfl
      | false => exact absurd (h1'.trans hh.symm) h
    obtain ⟨s, hs, h2, h3⟩ := hasB_iff.1 h0
    refine ⟨s, hs, by omega, ?_⟩
    by_cases hx : x = s.hi + 1
    · exact .inr hx
    · exact absurd (hasB_iff.2 ⟨s, hs, by omega, by omega⟩) h1
/-- The document's starts: the cuts at which a set turns. -/
theorem CutsOf.starts {most : Int} {T : List (List SpanV)} {r : List Int} (h : CutsOf most T.flatten (0 :: r)) : StartsOf most T (r.filter (turnB T)) := by
  have hr := List.pairwise_cons.1 h.1
  refine ⟨hr.2.filter _, fun x => ?_⟩
  rw [List.mem_filter]
  constructor
  · rintro ⟨hx, ht⟩
    have h0 := hr.1 x hx
    refine ⟨h0, ?_, ht⟩
    rcases (h.2.2 x).1 (List.mem_cons_of_mem _ hx) with rfl | ⟨s, _, hs⟩
    · omega
    · exact hs.2.2
  · rintro ⟨h0, hm, ht⟩
    refine ⟨?_, ht⟩
    unfold turnB at ht
    obtain ⟨L, hL, hh⟩ := List.any_eq_true.1 ht
    obtain ⟨s, hs, hok, ho⟩ := turn_mark (L := L) (x := x) (by simpa [bne] using hh)
    have hx : x ∈ 0 :: r := (h.2.2 x).2 (.inr ⟨s, List.mem_flatten.2 ⟨L, hL, hs⟩, hok, ho, hm⟩)
    rcases List.mem_cons.1 hx with rfl | hx
    · omega
    · exact hx

/-- A span of two numbers. -/
def spanAt (a b : Int) : SpanV := ⟨a % 4294967296, b % 4294967296, by omega, by omega⟩
/-- The finished pieces, and where the last begins. -/
def pin (a : Int) : List Int → List SpanV
  | [] => []
  | x :: r => spanAt a (x - 1) :: pin x r
def plast (a : Int) : List Int → Int
  | [] => a
  | x :: r => plast x r
def pcs (most a : Int) (C : List Int) : List SpanV := pin a C ++ [spanAt (plast a C) most]
theorem pin_snoc (C : List Int) (x : Int) : ∀ a, pin a (C ++ [x]) = pin a C ++ [spanAt (plast a C) (x - 1)] := by
  induction C with
  | nil => intro a; rfl
  | cons y r ih => intro a; show _ :: pin y (r ++ [x]) = _ :: (pin y r ++ _); rw [ih]; rfl
theorem plast_snoc (C : List Int) (x : Int) : ∀ a, plast a (C ++ [x]) = x := by
  induction C with
  | nil => intro a; rfl
  | cons y r ih => intro a; exact ih y
theorem pin_len (C : List Int) : ∀ a, (pin a C).length = C.length := by
  induction C with
  | nil => intro a; rfl
  | cons y r ih => intro a; show (pin y r).length + 1 = r.length + 1; rw [ih]
theorem pcs_len (most a : Int) (C : List Int) : (pcs most a C).length = C.length + 1 := by simp [pcs, pin_len]
theorem pcs_snoc (most a : Int) (C : List Int) (x : Int) : pcs most a (C ++ [x]) = pin a C ++ [spanAt (plast a C) (x - 1)] ++ [spanAt x most] := by rw [pcs, pin_snoc, plast_snoc]
theorem plast_le {C : List Int} : ∀ {a : Int}, Rising (a :: C) → a ≤ plast a C := by
  induction C with
  | nil => intro a _; exact Int.le_refl _
  | cons y r ih =>
    intro a h
    have h' := List.pairwise_cons.1 h
    have := h'.1 y (List.mem_cons_self ..)
    have := ih h'.2
    show a ≤ plast y r
    omega
theorem plast_mem {C : List Int} : ∀ {a : Int}, plast a C = a ∨ plast a C ∈ C := by
  induction C with
  | nil => intro a; exact .inl rfl
  | cons y r ih =>
    intro a
    rcases ih (a := y) with h | h
    · exact .inr (by show plast y r ∈ _; rw [h]; exact List.mem_cons_self ..)
    · exact .inr (List.mem_cons_of_mem _ h)
end Go.Proofs.Ythgmmajoinkblaa
