/-
  Joined texts: Sp7, Sp8, Sp9, SpMath5, Pc1.
-/
import Derived.Test.YthgmmajoinkblaaDoorMSpansNames6
import Derived.Test.YthgmmajoinkblaaDoorProg
import Derived.Test.YthgmmajoinkblaaDoorMSpansNames4
import Derived.Deep.DeepCutAuto
import Derived.Deep.RegionLaw
import Derived.Deep.CutBlock
import Derived.Test.YthgmmajoinkblaaDoorMSpansNames5
/-
  The walk of the document's put: a number put in its place, once.
-/
namespace Go.Proofs.YthgmmajoinkblaaDoor
open Go Go.RowKit Go.Lib Go.Sort

theorem Tryd.infoU32s : (Tryd.prog.info? 22).map (fun i => (i.zero, i.size, i.bytes)) = some (some (.int .u32 0), 1, 4) := by kernel_rfl
def encU (l : List Int) : List Value := l.map (Value.int .u32 ·)
theorem encU_len (l : List Int) : (encU l).length = l.length := by simp [encU]
theorem encU_at {l : List Int} {i : Nat} {x : Int} (h : l[i]? = some x) : (encU l)[i]? = some (.int .u32 x) := by simp [encU, h]
theorem encU_append (a b : List Int) : encU (a ++ b) = encU a ++ encU b := by simp [encU]
theorem encU_one (l : List Int) : ∀ u ∈ encU l, u.oneCell' = true := by
  intro u hu
  obtain ⟨x, _, rfl⟩ := List.mem_map.1 hu
  rfl
theorem below_drew7 {B : Nat} {a w : World} (h : Below B a w) : Below B a w.drew := ⟨h.os, h.tape, h.output, h.size, h.block⟩
theorem put_cells {l : List Int} {k : Nat} (hk : k ≤ l.length) {x : Int} {cur : List Value} {z : Value} (h : cur.take ((l.length + 1) * 1) = encU l ++ [z]) :
    ((splice cur (k + 1) (encU (l.drop k))).take (l.length + 1)).set k (.int .u32 x) = encU (l.take k ++ x :: l.drop k) := by
  rw [Nat.mul_one] at h
  obtain ⟨v, hv⟩ : ∃ v, cur.take (k + 1) = encU (l.take k) ++ [v] := by
    have e : cur.take (k + 1) = (encU l ++ [z]).take (k + 1) := by
      rw [← h, List.take_take]; congr 1; omega
    obtain ⟨v, hv⟩ : ∃ v, (encU l ++ [z])[k]? = some v := ⟨_, List.getElem?_eq_getElem (by simp [encU]; omega)⟩
    refine ⟨v, ?_⟩
    rw [e, List.take_add_one, hv, List.take_append_of_le_length (by rw [encU_len]; exact hk)]
    simp [encU, List.map_take]
  have hl : (encU (l.take k) ++ [v]).length = k + 1 := by simp [encU]; omega
  unfold splice
  rw [hv, ← List.append_assoc, List.take_append_of_le_length (by simp [encU]; omega), List.take_of_length_le (by simp [encU]; omega), encU_append]
  rw [List.append_assoc, List.set_append_right _ _ (by simp [encU]; omega)]
  have e0 : k - (encU (l.take k)).length = 0 := by simp [encU]; omega
  rw [e0]
  rfl
def PutRes (V : Value) (l : List Int) (x most : Int) (base : Nat) (w : World) (e : Ending) (w' : World) : Prop :=
  ∃ (v : Value) (m : List Int), e = .returned v ∧ w'.ownsRow base 22 1 v m.length (encU m) ∧ Rising m ∧ (∀ y, y ∈ m ↔ y ∈ l ∨ (y = x ∧ x ≤ most)) ∧ m.length ≤ l.length + 1 ∧ w.grownBy w' V.ownBlock

end Go.Proofs.YthgmmajoinkblaaDoor

/-
  The walk of the document's cuts.
-/
namespace Go.Proofs.YthgmmajoinkblaaDoor
open Go Go.RowKit Go.Lib Go.Sort

/-- Sets in memory: a slice of slices of spans, all below B. -/
structure SetV where
  v : Value
  L : List SpanV
instance : Inhabited SetV := ⟨⟨.slice none 0 0, []⟩⟩
def svals (S : List SetV) : List Value := S.map (·.v)
def SetsAt (w : World) (B : Nat) (v : Value) (S : List SetV) : Prop :=
  Rd w B 1 v S.length (svals S) ∧ ∀ x ∈ S, Rd w B 2 x.v x.L.length (scells x.L)
theorem SetsAt.below {w w' : World} {B : Nat} {v : Value} {S : List SetV} (h : SetsAt w B v S) (hb : Below B w w') : SetsAt w' B v S := ⟨h.1.below hb, fun x hx => (h.2 x hx).below hb⟩
theorem SetsAt.mono {w : World} {B B' : Nat} {v : Value} {S : List SetV} (h : SetsAt w B v S) (hb : B ≤ B') : SetsAt w B' v S := ⟨h.1.mono hb, fun x hx => (h.2 x hx).mono hb⟩
def allS (S : List SetV) : List SpanV := S.flatMap (·.L)
theorem allS_succ {S : List SetV} {i : Nat} {x : SetV} (h : S[i]? = some x) : allS (S.take (i + 1)) = allS (S.take i) ++ x.L := by
  unfold allS
  rw [List.take_add_one, h, List.flatMap_append]
  simp
def CutsRes (most : Int) (S : List SpanV) (w : World) (e : Ending) (w' : World) : Prop :=
  ∃ v C, e = .returned v ∧ w'.ownsRow w.heap.size 22 1 v C.length (encU C) ∧ CutsOf most S C ∧ C.length ≤ 2 * S.length + 1 ∧ Below w.heap.size w w'
theorem CutsOf.zero (most : Int) : CutsOf most [] [0] := ⟨List.pairwise_singleton _ _, fun y hy => by simp at hy; omega, fun y => by simp⟩
theorem take_snoc {L : List SpanV} {k : Nat} {s : SpanV} (h : L[k]? = some s) : L.take (k + 1) = L.take k ++ [s] := by rw [List.take_add_one, h]; rfl
theorem CutsOf.skip {most : Int} {S : List SpanV} {C : List Int} (h : CutsOf most S C) {s : SpanV} (hs : ¬ s.lo ≤ s.hi) : CutsOf most (S ++ [s]) C := by
  refine ⟨h.1, h.2.1, fun y => (h.2.2 y).trans ⟨fun hh => hh.imp id (fun ⟨t, ht, hm⟩ => ⟨t, List.mem_append_left _ ht, hm⟩), fun hh => hh.imp id (fun ⟨t, ht, hm⟩ => ?_)⟩⟩
  rcases List.mem_append.1 ht with ht | ht
  · exact ⟨t, ht, hm⟩
  · obtain rfl := List.mem_singleton.1 ht
    exact absurd hm.1 hs
/-- Behind the two puts of a span. -/
theorem CutsOf.puts {most : Int} {S : List SpanV} {C C1 C2 : List Int} (h : CutsOf most S C) {s : SpanV} (hs : s.lo ≤ s.hi) (hm : most < 4294967296)
    (h1 : Rising C1 ∧ ∀ y, y ∈ C1 ↔ y ∈ C ∨ (y = s.lo ∧ s.lo ≤ most)) (h2 : Rising C2 ∧ ∀ y, y ∈ C2 ↔ y ∈ C1 ∨ (y = s.hi + 1 ∧ s.hi + 1 ≤ most)) : CutsOf most (S ++ [s]) C2 := by
  have hlo := s.hlo
  have hhi := s.hhi
  refine ⟨h2.1, fun y hy => ?_, fun y => ?_⟩
  · rcases (h2.2 y).1 hy with hy | ⟨rfl, _⟩
    · rcases (h1.2 y).1 hy with hy | ⟨rfl, _⟩
      · exact h.2.1 y hy
      · omega
    · omega
  · rw [h2.2, h1.2, h.2.2]
    constructor
    · rintro (((rfl | ⟨t, ht, hk⟩) | ⟨rfl, hk⟩) | ⟨rfl, hk⟩)
      · exact .inl rfl
      · exact .inr ⟨t, List.mem_append_left _ ht, hk⟩
      · exact .inr ⟨s, List.mem_append_right _ (List.mem_singleton.2 rfl), hs, .inl rfl, hk⟩
      · exact .inr ⟨s, List.mem_append_right _ (List.mem_singleton.2 rfl), hs, .inr rfl, hk⟩
    · rintro (rfl | ⟨t, ht, hk⟩)
      · exact .inl (.inl (.inl rfl))
      · rcases List.mem_append.1 ht with ht | ht
        · exact .inl (.inl (.inr ⟨t, ht, hk⟩))
        · obtain rfl := List.mem_singleton.1 ht
          rcases hk.2.1 with rfl | rfl
          · exact .inl (.inr ⟨rfl, hk.2.2⟩)
          · exact .inr ⟨rfl, hk.2.2⟩
theorem CutsOf.puts1 {most : Int} {S : List SpanV} {C C1 : List Int} (h : CutsOf most S C) {s : SpanV} (hs : s.lo ≤ s.hi) (hm : most < 4294967296)
    (h1 : Rising C1 ∧ ∀ y, y ∈ C1 ↔ y ∈ C ∨ (y = s.lo ∧ s.lo ≤ most)) (hn : ¬ s.hi < most) : CutsOf most (S ++ [s]) C1 :=
  h.puts hs hm h1 ⟨h1.1, fun y => ⟨.inl, fun hh => hh.elim id (fun hh => by omega)⟩⟩

end Go.Proofs.YthgmmajoinkblaaDoor

/-
  The walk of the document's made, and of its five callers.
-/
namespace Go.Proofs.YthgmmajoinkblaaDoor
open Go Go.RowKit Go.Lib Go.Sort

end Go.Proofs.YthgmmajoinkblaaDoor

/-
  Numbers cut where sets begin or end: the starts, the pieces. No program in sight.
-/
namespace Go.Proofs.YthgmmajoinkblaaDoor

theorem rising_ext : ∀ {A B : List Int}, Rising A → Rising B → (∀ x, x ∈ A ↔ x ∈ B) → A = B
  | [], [], _, _, _ => rfl
  | [], b :: q, _, _, h => by have := (h b).2 (List.mem_cons_self ..); simp at this
  | a :: r, [], _, _, h => by have := (h a).1 (List.mem_cons_self ..); simp at this
  | a :: r, b :: q, hA, hB, h => by
    have hA' := List.pairwise_cons.1 hA
    have hB' := List.pairwise_cons.1 hB
    have hab : a = b := by
      rcases List.mem_cons.1 ((h a).1 (List.mem_cons_self ..)) with h1 | h1
      · exact h1
      · rcases List.mem_cons.1 ((h b).2 (List.mem_cons_self ..)) with h2 | h2
        · exact h2.symm
        · have := hB'.1 a h1; have := hA'.1 b h2; omega
    subst hab
    congr 1
    refine rising_ext hA'.2 hB'.2 fun x => ?_
    constructor
    · intro hx
      rcases List.mem_cons.1 ((h x).1 (List.mem_cons_of_mem _ hx)) with rfl | h2
      · have := hA'.1 x hx; omega
      · exact h2
    · intro hx
      rcases List.mem_cons.1 ((h x).2 (List.mem_cons_of_mem _ hx)) with rfl | h2
      · have := hB'.1 x hx; omega
      · exact h2

/-- In some set the number's membership is not the one of the number before it. -/
def turnB (T : List (List SpanV)) (x : Int) : Bool := T.any fun L => hasB L x != hasB L (x - 1)
def StartsOf (most : Int) (T : List (List SpanV)) (C : List Int) : Prop := Rising C ∧ ∀ x, x ∈ C ↔ 0 < x ∧ x ≤ most ∧ turnB T x = true
theorem StartsOf.unique {most : Int} {T : List (List SpanV)} {A B : List Int} (hA : StartsOf most T A) (hB : StartsOf most T B) : A = B :=
  rising_ext hA.1 hB.1 fun x => (hA.2 x).trans (hB.2 x).symm
theorem nf_apart : ∀ {r : List SpanV}, NF r → ∀ {u s : SpanV}, u ∈ r → s ∈ r → u = s ∨ u.hi + 1 < s.lo ∨ s.hi + 1 < u.lo
  | [], _, _, _, hu, _ => by simp at hu
  | t :: q, h, u, s, hu, hs => by
    rcases List.mem_cons.1 hs with hst | hsq
    · rcases List.mem_cons.1 hu with hut | huq
      · exact .inl (hut.trans hst.symm)
      · subst hst; exact .inr (.inr (h.2.1 u huq))
    · rcases List.mem_cons.1 hu with hut | huq
      · subst hut; exact .inr (.inl (h.2.1 s hsq))
      · exact nf_apart h.2.2 huq hsq
theorem nf_at {A : List SpanV} (h : NF A) {s : SpanV} (hs : s ∈ A) : hasB A (s.lo - 1) = false ∧ hasB A (s.hi + 1) = false := by
  have hsok := h.ok s hs
  constructor
  · rw [Bool.eq_false_iff]
    intro hh
    obtain ⟨u, hu, h1, h2⟩ := hasB_iff.1 hh
    have := h.ok u hu
    rcases nf_apart h hu hs with rfl | h3 | h3 <;> omega
  · rw [Bool.eq_false_iff]
    intro hh
    obtain ⟨u, hu, h1, h2⟩ := hasB_iff.1 hh
    have := h.ok u hu
    rcases nf_apart h hu hs with rfl | h3 | h3 <;> omega
theorem nf_turn {A : List SpanV} (h : NF A) (x : Int) : hasB A x ≠ hasB A (x - 1) ↔ ∃ s ∈ A, x = s.lo ∨ x = s.hi + 1 := by
  constructor
  · intro hne
    by_cases h1 : hasB A x = true
    · obtain ⟨s, hs, h2, h3⟩ := hasB_iff.1 h1
      by_cases hx : x = s.lo
      · exact ⟨s, hs, .inl hx⟩
      · exact absurd (h1.trans (hasB_iff.2 ⟨s, hs, by omega, by omega⟩).symm) hne
    · have h1' : hasB A x = false := by simpa using h1
      have h0 : hasB A (x - 1) = true := by
        cases hh : hasB A (x - 1) with
        | true => rfl
        | false => exact absurd (h1'.trans hh.symm) hne
      obtain ⟨s, hs, h2, h3⟩ := hasB_iff.1 h0
      by_cases hx : x = s.hi + 1
      · exact ⟨s, hs, .inr hx⟩
      · exact absurd (hasB_iff.2 ⟨s, hs, by omega, by omega⟩) h1
  · rintro ⟨s, hs, hx⟩
    have hok := h.ok s hs
    obtain ⟨i1, i2⟩ := nf_at h hs
    rcases hx with rfl | rfl
    · rw [i1, hasB_iff.2 ⟨s, hs, Int.le_refl _, hok⟩]; simp
    · rw [i2, show s.hi + 1 - 1 = s.hi by omega, hasB_iff.2 ⟨s, hs, hok, Int.le_refl _⟩]; simp

/-- The list behind a number that may be a cut. -/
def noted (most : Int) (L : List Int) (x : Int) : List Int := if 0 < x ∧ x ≤ most then L ++ [x] else L
theorem noted_mem (most : Int) (L : List Int) (x y : Int) : y ∈ noted most L x ↔ y ∈ L ∨ (y = x ∧ 0 < y ∧ y ≤ most) := by
  unfold noted
  split
  · rw [List.mem_append, List.mem_singleton]
    constructor
    · rintro (h | rfl)
      · exact .inl h
      · exact .inr ⟨rfl, by assumption⟩
    · rintro (h | ⟨h, _⟩)
      · exact .inl h
      · exact .inr h
  · constructor
    · exact .inl
    · rintro (h | ⟨rfl, h⟩)
      · exact h
      · exact absurd h (by assumption)
theorem noted_len (most : Int) (L : List Int) (x : Int) : (noted most L x).length ≤ L.length + 1 := by
  unfold noted; split <;> simp
/-- The numbers noted of spans. -/
def Noted (most : Int) (S : List SpanV) (D : List Int) : Prop := (∀ x, x ∈ D ↔ ∃ s ∈ S, (x = s.lo ∨ x = s.hi + 1) ∧ 0 < x ∧ x ≤ most) ∧ D.length ≤ 2 * S.length
theorem Noted.nil (most : Int) : Noted most [] [] := ⟨fun x => by simp, by simp⟩
theorem Noted.snoc {most : Int} {S : List SpanV} {D : List Int} (h : Noted most S D) (s : SpanV) : Noted most (S ++ [s]) (noted most (noted most D s.lo) (s.hi + 1)) := by
  refine ⟨fun x => ?_, ?_⟩
  · rw [noted_mem, noted_mem, h.1]
    constructor
    · rintro ((⟨t, ht, hh⟩ | ⟨rfl, hh⟩) | ⟨rfl, hh⟩)
      · exact ⟨t, List.mem_append_left _ ht, hh⟩
      · exact ⟨s, List.mem_append_right _ (List.mem_singleton.2 rfl), .inl rfl, hh⟩
      · exact ⟨s, List.mem_append_right _ (List.mem_singleton.2 rfl), .inr rfl, hh⟩
    · rintro ⟨t, ht, ho, hh⟩
      rcases List.mem_append.1 ht with ht | ht
      · exact .inl (.inl ⟨t, ht, ho, hh⟩)
      · obtain rfl := List.mem_singleton.1 ht
        rcases ho with rfl | rfl
        · exact .inl (.inr ⟨rfl, hh⟩)
        · exact .inr ⟨rfl, hh⟩
  · have := noted_len most D s.lo
    have := noted_len most (noted most D s.lo) (s.hi + 1)
    have := h.2
    simp only [List.length_append, List.length_singleton]
    omega
theorem Noted.starts {most : Int} {T : List (List SpanV)} {D C : List Int} (h : Noted most (T.flatMap formOf) D) (hr : Rising C) (hm : ∀ x, x ∈ C ↔ x ∈ D) : StartsOf most T C := by
  refine ⟨hr, fun x => ?_⟩
  rw [hm, h.1]
  unfold turnB
  rw [List.any_eq_true]
  constructor
  · rintro ⟨s, hs, ho, h1, h2⟩
    obtain ⟨L, hL, hsL⟩ := List.mem_flatMap.1 hs
    refine ⟨h1, h2, L, hL, ?_⟩
    have := (nf_turn (formOf_ok L).1 x).2 ⟨s, hsL, ho⟩
    rw [(formOf_ok L).2, (formOf_ok L).2] at this
    simpa [bne] using this
  · rintro ⟨h1, h2, L, hL, hh⟩
    have hne : hasB L x ≠ hasB L (x - 1) := by simpa [bne] using hh
    rw [← (formOf_ok L).2, ← (formOf_ok L).2 (x - 1)] at hne
    obtain ⟨s, hs, ho⟩ := (nf_turn (formOf_ok L).1 x).1 hne
    exact ⟨s, List.mem_flatMap.2 ⟨L, hL, hs⟩, ho, h1, h2⟩
/-- A number at which a set turns is the mark of one of its spans. -/
theorem turn_mark {L : List SpanV} {x : Int} (h : hasB L x ≠ hasB L (x - 1)) : ∃ s ∈ L, s.lo ≤ s.hi ∧ (x = s.lo ∨ x = s.hi + 1) := by
  by_cases h1 : hasB L x = true
  · obtain ⟨s, hs, h2, h3⟩ := hasB_iff.1 h1
    refine ⟨s, hs, by omega, ?_⟩
    by_cases hx : x = s.lo
    · exact .inl hx
    · exact absurd (h1.trans (hasB_iff.2 ⟨s, hs, by omega, by omega⟩).symm) h
  · have h1' : hasB L x = false := by simpa using h1
    have h0 : hasB L (x - 1) = true := by
      cases hh : hasB L (x - 1) with
      | true => rfl
      | false => exact absurd (h1'.trans hh.symm) h
    obtain ⟨s, hs, h2, h3⟩ := hasB_iff.1 h0
    refine ⟨s, hs, by omega, ?_⟩
    by_cases hx : x = s.hi + 1
    · exact .inr hx
    · exact absurd (hasB_iff.2 ⟨s, hs, by omega, by omega⟩) h1
/-- The document's starts: the cuts at which a set turns. -/
theorem CutsOf.starts {most : Int} {T : List (List SpanV)} {r : List Int} (h : CutsOf most T.flatten (0 :: r)) : StartsOf most T (r.filter (turnB T)) := by
  have hr := List.pairwise_cons.1 h.1
  refine ⟨hr.2.filter _, fun x => ?_⟩
  rw [List.mem_filter]
  constructor
  · rintro ⟨hx, ht⟩
    have h0 := hr.1 x hx
    refine ⟨h0, ?_, ht⟩
    rcases (h.2.2 x).1 (List.mem_cons_of_mem _ hx) with rfl | ⟨s, _, hs⟩
    · omega
    · exact hs.2.2
  · rintro ⟨h0, hm, ht⟩
    refine ⟨?_, ht⟩
    unfold turnB at ht
    obtain ⟨L, hL, hh⟩ := List.any_eq_true.1 ht
    obtain ⟨s, hs, hok, ho⟩ := turn_mark (L := L) (x := x) (by simpa [bne] using hh)
    have hx : x ∈ 0 :: r := (h.2.2 x).2 (.inr ⟨s, List.mem_flatten.2 ⟨L, hL, hs⟩, hok, ho, hm⟩)
    rcases List.mem_cons.1 hx with rfl | hx
    · omega
    · exact hx

/-- A span of two numbers. -/
def spanAt (a b : Int) : SpanV := ⟨a % 4294967296, b % 4294967296, by omega, by omega⟩
/-- The finished pieces, and where the last begins. -/
def pin (a : Int) : List Int → List SpanV
  | [] => []
  | x :: r => spanAt a (x - 1) :: pin x r
def plast (a : Int) : List Int → Int
  | [] => a
  | x :: r => plast x r
def pcs (most a : Int) (C : List Int) : List SpanV := pin a C ++ [spanAt (plast a C) most]
theorem pin_snoc (C : List Int) (x : Int) : ∀ a, pin a (C ++ [x]) = pin a C ++ [spanAt (plast a C) (x - 1)] := by
  induction C with
  | nil => intro a; rfl
  | cons y r ih => intro a; show _ :: pin y (r ++ [x]) = _ :: (pin y r ++ _); rw [ih]; rfl
theorem plast_snoc (C : List Int) (x : Int) : ∀ a, plast a (C ++ [x]) = x := by
  induction C with
  | nil => intro a; rfl
  | cons y r ih => intro a; exact ih y
theorem pin_len (C : List Int) : ∀ a, (pin a C).length = C.length := by
  induction C with
  | nil => intro a; rfl
  | cons y r ih => intro a; show (pin y r).length + 1 = r.length + 1; rw [ih]
theorem pcs_len (most a : Int) (C : List Int) : (pcs most a C).length = C.length + 1 := by simp [pcs, pin_len]
theorem pcs_snoc (most a : Int) (C : List Int) (x : Int) : pcs most a (C ++ [x]) = pin a C ++ [spanAt (plast a C) (x - 1)] ++ [spanAt x most] := by rw [pcs, pin_snoc, plast_snoc]
theorem plast_le {C : List Int} : ∀ {a : Int}, Rising (a :: C) → a ≤ plast a C := by
  induction C with
  | nil => intro a _; exact Int.le_refl _
  | cons y r ih =>
    intro a h
    have h' := List.pairwise_cons.1 h
    have := h'.1 y (List.mem_cons_self ..)
    have := ih h'.2
    show a ≤ plast y r
    omega
theorem plast_mem {C : List Int} : ∀ {a : Int}, plast a C = a ∨ plast a C ∈ C := by
  induction C with
  | nil => intro a; exact .inl rfl
  | cons y r ih =>
    intro a
    rcases ih (a := y) with h | h
    · exact .inr (by show plast y r ∈ _; rw [h]; exact List.mem_cons_self ..)
    · exact .inr (List.mem_cons_of_mem _ h)
end Go.Proofs.YthgmmajoinkblaaDoor

/-
  spans.Pieces: the closure that notes a cut.
-/
namespace Go.Proofs.YthgmmajoinkblaaDoor
open Go Go.RowKit Go.Lib Go.Sort

theorem heap_set1 {w : World} {g : Nat} {o u : Value} {t : TypeId} (h : w.heap[g]? = some (.cells #[o] t (0, 0))) : (w.setCell ⟨g, 0, none⟩ u).heap[g]? = some (.cells #[u] t (0, 0)) := by
  simp only [World.setCell, Array.getElem?_modify, if_true]
  rw [h]
  rfl
theorem owns_setOff {w : World} {base g n : Nat} {e : TypeId} {k : Nat} {v u : Value} {xs : List Value} (h : w.ownsRow base e k v n xs) (hg : g < base) : (w.setCell ⟨g, 0, none⟩ u).ownsRow base e k v n xs := by
  obtain ⟨hl, h2⟩ := h
  rcases h2 with h2 | ⟨g', cap, cur, rfl, hb, hh, r⟩
  · exact ⟨hl, .inl h2⟩
  · exact ⟨hl, .inr ⟨g', cap, cur, rfl, hb, set_far hh (by show g' ≠ g; omega), r⟩⟩
/-- What the walk of Pieces keeps while cuts are noted: the box of the greatest number, the cell of the list, the list. -/
structure PSt (w : World) (mb sb : Nat) (most : Int) (L : List Int) (o : Value) (W : World) : Prop where
  cell : W.heap[sb]? = some (.cells #[o] 35 (0, 0))
  row : W.ownsRow (sb + 1) 22 1 o L.length (ucells L)
  box : W.heap[mb]? = some (.cells #[.int .u32 most] 22 (0, 0))
  below : Below w.heap.size w W
theorem PSt.up {w W W' : World} {mb sb : Nat} {most : Int} {L : List Int} {o : Value} (h : PSt w mb sb most L o W) (hb : Below W.heap.size W W') : PSt w mb sb most L o W' := by
  obtain ⟨h1, h2, h3, h4⟩ := h
  exact ⟨(hb.block _ (lt_of_block h1)).trans h1, owns_kept_none h2 (only_of_below hb none), (hb.block _ (lt_of_block h3)).trans h3, h4.trans (hb.mono h4.size)⟩
/-- A block that is neither the list's cell nor the list's own stays, and stays foreign. -/
structure Far (sb : Nat) (o o' : Value) (W W' : World) : Prop where
  size : W.heap.size ≤ W'.heap.size
  kept : ∀ g, g < W.heap.size → g ≠ sb → o.ownBlock ≠ some g → W'.heap[g]? = W.heap[g]? ∧ o'.ownBlock ≠ some g
theorem Far.refl (sb : Nat) (o : Value) (W : World) : Far sb o o W W := ⟨Nat.le_refl _, fun _ _ _ h => ⟨rfl, h⟩⟩
theorem Far.trans {sb : Nat} {o o1 o2 : Value} {W W1 W2 : World} (h : Far sb o o1 W W1) (h2 : Far sb o1 o2 W1 W2) : Far sb o o2 W W2 :=
  ⟨Nat.le_trans h.size h2.size, fun g hg hs ho => by
    obtain ⟨a, b⟩ := h.kept g hg hs ho
    obtain ⟨c, d⟩ := h2.kept g (Nat.lt_of_lt_of_le hg h.size) hs b
    exact ⟨c.trans a, d⟩⟩
theorem Far.up {sb : Nat} {o : Value} {W W' : World} (h : Below W.heap.size W W') : Far sb o o W W' := ⟨h.size, fun g hg _ ho => ⟨h.block g hg, ho⟩⟩
theorem Tryd.infoU32p : (Tryd.prog.info? 22).map (fun i => (i.zero, i.size, i.bytes)) = some (some (.int .u32 0), 1, 4) := by kernel_rfl
set_option maxRecDepth 100000 in
set_option maxHeartbeats 1000000 in
theorem cutP_any (w W : World) (mb sb : Nat) (most x : Int) (L : List Int) (o : Value) (h : PSt w mb sb most L o W) (hm : 0 ≤ most ∧ most < 4294967296) (hx : 0 ≤ x ∧ x ≤ 4294967296) (hms : w.heap.size ≤ mb ∧ mb < sb) (hlen : L.length ≤ 1099511627776) :
    Calls Tryd.prog 8 #[.int .u64 x, .pointer (some ⟨mb, 0, none⟩), .pointer (some ⟨sb, 0, none⟩)] W fun e w' => e = .returned (.tuple #[]) ∧ ∃ o', PSt w mb sb most (noted most L x) o' w' ∧ Far sb o o' W w' := by
  obtain ⟨i0, hi, hz0, hz1, hz2⟩ := info_parts Tryd.infoU32p
  have H := Lib.hid h
  obtain ⟨h1, h2, h3, h4⟩ := h
  have c0 : W.cell? ⟨mb, 0, none⟩ = some (.int .u32 most) := by rw [cell_of_row W mb 0 _ _ (0, 0) h3]; rfl
  have c1 : W.cell? ⟨sb, 0, none⟩ = some o := by rw [cell_of_row W sb 0 _ _ (0, 0) h1]; rfl
  by_cases hx0 : 0 < x
  · by_cases hxm : x ≤ most
    · have hn : noted most L x = L ++ [x] := by unfold noted; rw [if_pos ⟨hx0, hxm⟩]
      have hwr : IntKind.u32.wrap x = x := by rw [IntKind.wrap_u32]; omega
      have hsz := lt_of_block h1
      have hob : o.ownBlock ≠ some sb := fun hh => by have := (h2.lt sb hh).1; omega
      have hom : o.ownBlock ≠ some mb := fun hh => by have := (h2.lt mb hh).1; omega
      rw [hn]
      have HO := Lib.hid h2
      have H1 := Lib.hid h1
      have H3 := Lib.hid h3
      have H4 := Lib.hid h4
      have HOB := Lib.hid hob
      have HOM := Lib.hid hom
      clear hn h1 h2 h3 h4 H hob hom
      go_enter Tryd.func8, Tryd.ntmps8
      go_wp2_with (at_builtin; refine wpList_push2 (v := o) rfl _ _ 35 rfl 22 i0 _ 1 4 Tryd.underlying35 hi hz0 hz1 hz2 rfl (by decide) (by decide) [.int .u32 x] rfl rfl (by simp) HO.out rfl (by intro u hu; rw [List.mem_singleton] at hu; subst hu; rfl) hlen (by omega) ?_; intro v2 w2 hown2 hgr2 hmv2; obtain ⟨A2, c2, rfl, _⟩ := owns_form hown2; have k1 := (hgr2.block sb (by omega) (fun hh => HOB.out hh.symm)).trans H1.out; have y0 : w2.cell? ⟨sb, 0, none⟩ = some o := by { rw [cell_of_row w2 sb 0 _ _ (0, 0) k1]; rfl }; have y1 : w2.frozen? ⟨sb, 0, none⟩ = false := frozen_of_row w2 sb 0 _ _ k1)
      all_goals (
        go_end0
        have k3 := (hgr2.block mb (by omega) (fun hh => HOM.out hh.symm)).trans H3.out
        refine ⟨rfl, _, ⟨heap_set1 k1, ?_, set_far k3 (by show mb ≠ sb; omega), ?_⟩, ?_, ?_⟩
        · have := fun u => owns_setOff (u := u) (g := sb) hown2 (by omega)
          simpa [ucells] using this _
        · exact (below_row H4.out HO.out hgr2 H4.out.size (by omega)).setCell (p := ⟨sb, 0, none⟩) (by show w.heap.size ≤ sb; omega) _
        · simpa using hgr2.size
        · intro g hg hgs hgo
          have e1 := hgr2.block g hg (fun hh => hgo hh.symm)
          refine ⟨?_, ?_⟩
          · rw [← e1]
            simp only [World.setCell, Array.getElem?_modify]
            rw [if_neg (by omega)]
          · rcases hmv2 with hmv2 | hmv2
            · rw [hmv2]; exact hgo
            · intro hh; have := hmv2 g hh; omega)
    · have hn : noted most L x = L := by unfold noted; rw [if_neg (by omega)]
      rw [hn]
      clear h1 h2 h3 h4 hn
      go_enter Tryd.func8, Tryd.ntmps8
      go_wp2
      go_end0
      exact ⟨rfl, o, H.out, Far.refl _ _ _⟩
  · have hn : noted most L x = L := by unfold noted; rw [if_neg (by omega)]
    rw [hn]
    clear h1 h2 h3 h4 hn
    go_enter Tryd.func8, Tryd.ntmps8
    go_wp2
    go_end0
    exact ⟨rfl, o, H.out, Far.refl _ _ _⟩
end Go.Proofs.YthgmmajoinkblaaDoor
