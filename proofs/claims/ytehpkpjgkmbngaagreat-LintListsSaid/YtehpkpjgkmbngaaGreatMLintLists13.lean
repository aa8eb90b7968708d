/-
  Joined texts: Le0, Le1, Le2, Le3, OpenS2, ElemLs, Kit5, LnAw.
-/
import Derived.Test.YtehpkpjgkmbngaaGreatMLintLists11
import Derived.Test.YtehpkpjgkmbngaaGreatMLintLists12
import Derived.Laws.OwnMore
import Derived.Laws.MakeOwn
import Derived.Test.YtehpkpjgkmbngaaGreatMLintLists4
import Derived.SizedLaws
import Derived.Deep.Fields
import Derived.Test.YtehpkpjgkmbngaaGreatMLintLists1
import Derived.Laws.AppendOwnNone
import Derived.Deep.RegionLawGrows
/-
  What the linter finds in lists (plain).
-/
namespace Go.Proofs.YtehpkpjgkmbngaaGreat
open Go Go.RowKit Go.Sort

theorem idxF_find {α : Type} [Inhabited α] (p : α → Bool) (L : List α) : (idxP p L = -1 ∧ L.find? p = none) ∨ ∃ (k : Nat) (x : α), idxP p L = k ∧ L[k]? = some x ∧ L.find? p = some x := by
  rcases idxP_cases p L with ⟨h1, h2⟩ | ⟨k, x, h1, h2, h3, h4⟩
  · refine .inl ⟨h1, List.find?_eq_none.2 fun x hx => ?_⟩
    obtain ⟨j, hj⟩ := List.mem_iff_getElem?.1 hx
    simp [h2 j x hj]
  · refine .inr ⟨k, x, h1, h2, ?_⟩
    have hk : k < L.length := (List.getElem?_eq_some_iff.1 h2).1
    rw [List.find?_eq_some_iff_append]
    refine ⟨h3, L.take k, L.drop (k + 1), ?_, fun y hy => ?_⟩
    · have h5 := (List.getElem?_eq_some_iff.1 h2).2
      rw [← h5, ← List.drop_eq_getElem_cons hk, List.take_append_drop]
    · obtain ⟨j, hj⟩ := List.mem_iff_getElem?.1 hy
      rw [List.getElem?_take] at hj
      by_cases hjk : j < k
      · rw [if_pos hjk] at hj
        simp [h4 j y hjk hj]
      · rw [if_neg hjk] at hj
        cases hj
/-- Does an entry count at so many bits? -/
def actB (x : EntV) (b : Int) : Bool := decide (chk x.a x.n = 0 ∧ x.n ≤ b ∧ x.ge ≤ b ∧ b ≤ x.le)
/-- Its addresses. -/
def ownS (x : EntV) : SpanV := spanAt (endA x.a x.n) (endB x.a x.n)
def EntOk (x : EntV) : Prop := 0 ≤ x.a ∧ x.a < 4294967296
theorem end_range {a n : Int} (h0 : 0 ≤ a) (h1 : a < 4294967296) : 0 ≤ endA a n ∧ endA a n < 4294967296 ∧ 0 ≤ endB a n ∧ endB a n < 4294967296 := by
  by_cases h : chk a n = 0
  · have hp := sz_pos n
    have he := end_le a n h1 (chk_ok h).2.2
    rw [(end_yes h).1, (end_yes h).2]
    omega
  · rw [(end_no h).1, (end_no h).2]
    omega
theorem own_lo {x : EntV} (h : EntOk x) : (ownS x).lo = endA x.a x.n := spanAt_lo ⟨(end_range h.1 h.2).1, (end_range h.1 h.2).2.1⟩
theorem own_hi {x : EntV} (h : EntOk x) : (ownS x).hi = endB x.a x.n := spanAt_hi ⟨(end_range h.1 h.2).2.2.1, (end_range h.1 h.2).2.2.2⟩
/-- Does an entry fit a prefix? -/
def entF (a n : Int) (x : EntV) : Bool := withinB a n x.a x.n && decide (x.ge ≤ n) && decide (n ≤ x.le)
theorem entF_act {x : EntV} (h : EntOk x) {a n : Int} (hc : chk a n = 0) : entF a n x = (actB x n && (ownS x).inB a) := by
  unfold entF withinB actB SpanV.inB Proofs.YtehpkpjgkmbngaaGreat.inB
  rw [own_lo h, own_hi h]
  by_cases hx : chk x.a x.n = 0
  · rw [(end_yes hx).1, (end_yes hx).2]
    rw [Bool.eq_iff_iff]
    simp only [Bool.and_eq_true, decide_eq_true_eq]
    constructor
    · rintro ⟨⟨⟨⟨_, h2⟩, _, h4, h5⟩, h6⟩, h7⟩
      exact ⟨⟨hx, h2, h6, h7⟩, h4, by omega⟩
    · rintro ⟨⟨_, h2, h6, h7⟩, h4, h5⟩
      exact ⟨⟨⟨⟨hc, h2⟩, hx, h4, by omega⟩, h6⟩, h7⟩
  · simp [hx]
/-- The addresses ahead. -/
noncomputable def aheadL (L : List EntV) (b : Int) : Nat → List SpanV
  | 0 => []
  | i + 1 => match L[i]? with
    | some x => if actB x b then formOf (aheadL L b i ++ [ownS x]) else aheadL L b i
    | none => aheadL L b i
theorem ahead_yes {L : List EntV} {b : Int} {i : Nat} {x : EntV} (h : L[i]? = some x) (ha : actB x b = true) : aheadL L b (i + 1) = formOf (aheadL L b i ++ [ownS x]) := by
  show (match L[i]? with | some x => _ | none => _) = _
  rw [h]; simp [ha]
theorem ahead_no {L : List EntV} {b : Int} {i : Nat} {x : EntV} (h : L[i]? = some x) (ha : actB x b = false) : aheadL L b (i + 1) = aheadL L b i := by
  show (match L[i]? with | some x => _ | none => _) = _
  rw [h]; simp [ha]
theorem ahead_has (L : List EntV) (b y : Int) (i : Nat) (hi : i ≤ L.length) : hasB (aheadL L b i) y = (L.take i).any fun x => actB x b && (ownS x).inB y := by
  induction i with
  | zero => rfl
  | succ i ih =>
    obtain ⟨x, hx⟩ : ∃ x, L[i]? = some x := ⟨_, List.getElem?_eq_getElem hi⟩
    rw [List.take_add_one, hx, List.any_append, ← ih (by omega)]
    cases ha : actB x b with
    | false => rw [ahead_no hx ha]; simp [ha]
    | true => rw [ahead_yes hx ha, (formOf_ok _).2, hasB_append, hasB_one]; simp [ha]
theorem ahead_len (L : List EntV) (b : Int) (i : Nat) : (aheadL L b i).length ≤ i := by
  induction i with
  | zero => exact Nat.le_refl _
  | succ i ih =>
    cases hx : L[i]? with
    | none =>
      have e : aheadL L b (i + 1) = aheadL L b i := by
        show (match L[i]? with | some x => _ | none => _) = _
        rw [hx]
      rw [e]; omega
    | some x =>
      cases ha : actB x b with
      | false => rw [ahead_no hx ha]; omega
      | true =>
        rw [ahead_yes hx ha]
        have := formOf_len (aheadL L b i ++ [ownS x])
        rw [List.length_append] at this
        simp at this
        omega
theorem less_ok (L M : List SpanV) (x : Int) : hasB (theSet (fun x => hasB L x && !hasB M x)) x = (hasB L x && !hasB M x) := by
  have hp : ∀ x, (hasB L x && hasB (theSet (notP 4294967295 M)) x) = (hasB L x && !hasB M x) := by
    intro x
    have h := (notAll_ok (formOf_ok M).1 (most := 4294967295) (by omega)).2 x
    rw [theSet_not (by omega), h, notP_form]
    unfold notP
    cases hx : hasB L x with
    | false => rfl
    | true =>
      obtain ⟨s, _, h1, h2⟩ := hasB_iff.1 hx
      have := s.hlo
      have := s.hhi
      have e1 : 0 ≤ x := by omega
      have e2 : x ≤ 4294967295 := by omega
      simp [e1, e2]
  have hf : theSet (fun x => hasB L x && !hasB M x) = formOf (meetAll L (theSet (notP 4294967295 M))) := theSet_form fun x => by rw [hasB_meetAll, hp]
  rw [hf, (formOf_ok _).2, hasB_meetAll, hp]
theorem less_NF (L M : List SpanV) : NF (theSet (fun x => hasB L x && !hasB M x)) := by
  have hp : ∀ x, (hasB L x && hasB (theSet (notP 4294967295 M)) x) = (hasB L x && !hasB M x) := by
    intro x
    have h := (notAll_ok (formOf_ok M).1 (most := 4294967295) (by omega)).2 x
    rw [theSet_not (by omega), h, notP_form]
    unfold notP
    cases hx : hasB L x with
    | false => rfl
    | true =>
      obtain ⟨s, _, h1, h2⟩ := hasB_iff.1 hx
      have := s.hlo
      have := s.hhi
      have e1 : 0 ≤ x := by omega
      have e2 : x ≤ 4294967295 := by omega
      simp [e1, e2]
  have hf : theSet (fun x => hasB L x && !hasB M x) = formOf (meetAll L (theSet (notP 4294967295 M))) := theSet_form fun x => by rw [hasB_meetAll, hp]
  rw [hf]
  exact (formOf_ok _).1
theorem less_pos (L M : List SpanV) : 0 < (theSet (fun x => hasB L x && !hasB M x)).length ↔ ∃ y, hasB L y = true ∧ hasB M y = false := by
  constructor
  · intro h
    obtain ⟨s, hs⟩ := List.exists_mem_of_length_pos h
    have h1 := (less_NF L M).ok s hs
    have h2 : hasB (theSet (fun x => hasB L x && !hasB M x)) s.lo = true := hasB_iff.2 ⟨s, hs, Int.le_refl _, h1⟩
    rw [less_ok] at h2
    exact ⟨s.lo, by simpa using h2⟩
  · rintro ⟨y, h1, h2⟩
    have h : hasB (theSet (fun x => hasB L x && !hasB M x)) y = true := by rw [less_ok, h1, h2]; rfl
    obtain ⟨s, hs, _⟩ := hasB_iff.1 h
    exact List.length_pos_of_mem hs
/-- Does an entry decide, at so many bits? -/
noncomputable def hitB (L : List EntV) (b : Int) (i : Nat) : Bool := match L[i]? with
  | some x => actB x b && decide (0 < (theSet (fun y => hasB [ownS x] y && !hasB (aheadL L b i) y)).length)
  | none => false
theorem hit_some {L : List EntV} {b : Int} {i : Nat} {x : EntV} (h : L[i]? = some x) : hitB L b i = (actB x b && decide (0 < (theSet (fun y => hasB [ownS x] y && !hasB (aheadL L b i) y)).length)) := by unfold hitB; rw [h]
theorem hit_iff {L : List EntV} {b : Int} {i : Nat} {x : EntV} (h : L[i]? = some x) : hitB L b i = true ↔ actB x b = true ∧ ∃ y, (ownS x).inB y = true ∧ ∀ z ∈ L.take i, (actB z b && (ownS z).inB y) = false := by
  have hi : i ≤ L.length := by have := (List.getElem?_eq_some_iff.1 h).1; omega
  rw [hit_some h, Bool.and_eq_true, decide_eq_true_eq, less_pos]
  refine and_congr_right fun _ => exists_congr fun y => ?_
  rw [hasB_one, ahead_has L b y i hi]
  refine and_congr_right fun _ => ?_
  rw [List.any_eq_false]
  simp
/-- What is decided after so many bits, and the entries up to the m-th of the next. -/
noncomputable def decB (L : List EntV) (b m i : Nat) : Bool := (List.range b).any (fun c => hitB L (c : Int) i) || (decide (i < m) && hitB L (b : Int) i)
noncomputable def decL (L : List EntV) (b m : Nat) : List Bool := (List.range L.length).map (decB L b m)
theorem decL_len (L : List EntV) (b m : Nat) : (decL L b m).length = L.length := by simp [decL]
theorem decB_zero (L : List EntV) (i : Nat) : decB L 0 0 i = false := by simp [decB]
theorem decB_next (L : List EntV) (b i : Nat) (hi : i < L.length) : decB L b L.length i = decB L (b + 1) 0 i := by
  unfold decB
  rw [List.range_succ, List.any_append]
  simp [hi]
theorem decL_next (L : List EntV) (b : Nat) : decL L b L.length = decL L (b + 1) 0 := by
  unfold decL
  exact List.map_congr_left fun i hi => decB_next L b i (List.mem_range.1 hi)
theorem decL_get (L : List EntV) (b m i : Nat) (hi : i < L.length) : (decL L b m)[i]? = some (decB L b m i) := by
  unfold decL
  rw [List.getElem?_map, List.getElem?_range hi]; rfl
theorem decL_no {L : List EntV} {b m : Nat} (h : hitB L (b : Int) m = false) : decL L b (m + 1) = decL L b m := by
  unfold decL
  refine List.map_congr_left fun i _ => ?_
  unfold decB
  by_cases hi : i = m
  · subst hi; simp [h]
  · have : decide (i < m + 1) = decide (i < m) := by simp; omega
    rw [this]
theorem decL_yes {L : List EntV} {b m : Nat} (h : hitB L (b : Int) m = true) : decL L b (m + 1) = (decL L b m).set m true := by
  refine List.ext_getElem? fun i => ?_
  rw [List.getElem?_set]
  by_cases hi : i < L.length
  · rw [decL_get L b (m + 1) i hi]
    by_cases him : m = i
    · subst him
      rw [if_pos rfl, if_pos (by rw [decL_len]; exact hi)]
      unfold decB; simp [h]
    · rw [if_neg him, decL_get L b m i hi]
      unfold decB
      have : decide (i < m + 1) = decide (i < m) := by simp; omega
      rw [this]
  · rw [List.getElem?_eq_none (by rw [decL_len]; omega)]
    split
    · rw [if_neg (by rw [decL_len]; omega)]
    · rw [List.getElem?_eq_none (by rw [decL_len]; omega)]
/-- Does an entry decide at all? -/
noncomputable def DB (L : List EntV) (i : Nat) : Bool := decB L 33 0 i
theorem DB_iff (L : List EntV) (i : Nat) : DB L i = true ↔ ∃ b : Nat, b ≤ 32 ∧ hitB L (b : Int) i = true := by
  unfold DB decB
  simp only [Nat.not_lt_zero, decide_false, Bool.false_and, Bool.or_false, List.any_eq_true, List.mem_range]
  exact ⟨fun ⟨b, h1, h2⟩ => ⟨b, by omega, h2⟩, fun ⟨b, h1, h2⟩ => ⟨b, by omega, h2⟩⟩
/-- The elements of those places. -/
def keepL {α : Type} (D : Nat → Bool) (L : List α) : Nat → List α
  | 0 => []
  | k + 1 => keepL D L k ++ (if D k then (L[k]?).toList else [])
theorem keep_yes {α : Type} {D : Nat → Bool} {L : List α} {k : Nat} {x : α} (h : L[k]? = some x) (hd : D k = true) : keepL D L (k + 1) = keepL D L k ++ [x] := by
  show keepL D L k ++ (if D k then _ else _) = _
  rw [hd, h]; rfl
theorem keep_no {α : Type} {D : Nat → Bool} {L : List α} {k : Nat} (hd : D k = false) : keepL D L (k + 1) = keepL D L k := by
  show keepL D L k ++ (if D k then _ else _) = _
  rw [hd]; simp
theorem keep_len {α : Type} (D : Nat → Bool) (L : List α) (k : Nat) : (keepL D L k).length ≤ k := by
  induction k with
  | zero => exact Nat.le_refl _
  | succ k ih =>
    show (keepL D L k ++ _).length ≤ _
    rw [List.length_append]
    have : (if D k then (L[k]?).toList else []).length ≤ 1 := by
      split
      · cases L[k]? <;> simp
      · simp
    omega
theorem keep_find {α : Type} (D : Nat → Bool) (p : α → Bool) (L : List α) (hd : ∀ k x, L[k]? = some x → p x = true → (∀ z ∈ L.take k, p z = false) → D k = true) (k : Nat) (hk : k ≤ L.length) : (keepL D L k).find? p = (L.take k).find? p := by
  induction k with
  | zero => rfl
  | succ k ih =>
    obtain ⟨x, hx⟩ : ∃ x, L[k]? = some x := ⟨_, List.getElem?_eq_getElem hk⟩
    rw [List.take_add_one, hx]
    have ih := ih (by omega)
    cases hD : D k with
    | true => rw [keep_yes hx hD, List.find?_append, List.find?_append, ih]; rfl
    | false =>
      rw [keep_no hD, List.find?_append, ih]
      cases hf : (L.take k).find? p with
      | some y => rfl
      | none =>
        have hpx : p x = false := by
          cases hp : p x with
          | false => rfl
          | true => exact absurd (hd k x hx hp fun z hz => by simpa using List.find?_eq_none.1 hf z hz) (by rw [hD]; simp)
        simp [hpx]
theorem keep_all {α : Type} (D : Nat → Bool) (p : α → Bool) (L : List α) (hd : ∀ k x, L[k]? = some x → p x = true → (∀ z ∈ L.take k, p z = false) → D k = true) : (keepL D L L.length).find? p = L.find? p := by
  rw [keep_find D p L hd L.length (Nat.le_refl _), List.take_length]
theorem keep_back {α : Type} (D : Nat → Bool) (L : List α) (k : Nat) (hk : k ≤ L.length) : ∀ i x, (keepL D L k)[i]? = some x → ∃ m, m < k ∧ L[m]? = some x ∧ D m = true ∧ ∀ z ∈ (keepL D L k).take i, z ∈ L.take m := by
  induction k with
  | zero => intro i x h; simp [keepL] at h
  | succ k ih =>
    have ih := ih (by omega)
    obtain ⟨y, hy⟩ : ∃ y, L[k]? = some y := ⟨_, List.getElem?_eq_getElem hk⟩
    have hsub : ∀ z ∈ keepL D L k, z ∈ L.take k := by
      intro z hz
      obtain ⟨i, hi⟩ := List.mem_iff_getElem?.1 hz
      obtain ⟨m, hm, h1, _⟩ := ih i z hi
      exact List.mem_iff_getElem?.2 ⟨m, by rw [List.getElem?_take_of_lt hm]; exact h1⟩
    intro i x h
    cases hD : D k with
    | false =>
      rw [keep_no hD] at h ⊢
      obtain ⟨m, hm, h1⟩ := ih i x h
      exact ⟨m, by omega, h1⟩
    | true =>
      rw [keep_yes hy hD] at h ⊢
      rcases Nat.lt_or_ge i (keepL D L k).length with hi | hi
      · rw [List.getElem?_append_left hi] at h
        obtain ⟨m, hm, h1, h2, h3⟩ := ih i x h
        refine ⟨m, by omega, h1, h2, fun z hz => h3 z ?_⟩
        rw [List.take_append_of_le_length (by omega)] at hz
        exact hz
      · rw [List.getElem?_append_right hi] at h
        have hi0 : i - (keepL D L k).length = 0 := by
          have := (List.getElem?_eq_some_iff.1 h).1
          simp at this
          omega
        rw [hi0] at h
        injection h with h
        subst h
        obtain rfl : i = (keepL D L k).length := by omega
        refine ⟨k, by omega, hy, hD, fun z hz => hsub z ?_⟩
        rw [List.take_left'] at hz
        · exact hz
        · rfl
/-- Whether a list permits: the first that fits tells. -/
def permL {α : Type} (f : α → Bool) (p : α → Bool) (L : List α) : Bool := match L.find? p with
  | some x => f x
  | none => false
theorem permL_keep {α : Type} (f : α → Bool) (D : Nat → Bool) (p : α → Bool) (L : List α) (hd : ∀ k x, L[k]? = some x → p x = true → (∀ z ∈ L.take k, p z = false) → D k = true) : permL f p (keepL D L L.length) = permL f p L := by unfold permL; rw [keep_all D p L hd]
theorem mem_take_idx {α : Type} {L : List α} {k : Nat} {z : α} (h : z ∈ L.take k) : ∃ j, j < k ∧ L[j]? = some z := by
  obtain ⟨j, hj⟩ := List.mem_iff_getElem?.1 h
  have := (List.getElem?_eq_some_iff.1 hj).1
  rw [List.length_take] at this
  rw [List.getElem?_take_of_lt (by omega)] at hj
  exact ⟨j, by omega, hj⟩
theorem take_of_idx {α : Type} {L : List α} {k j : Nat} {z : α} (h : L[j]? = some z) (hj : j < k) : z ∈ L.take k := List.mem_iff_getElem?.2 ⟨j, by rw [List.getElem?_take_of_lt hj]; exact h⟩
/-- The first that fits a prefix decides. -/
theorem first_dec {L : List EntV} (hL : ∀ x ∈ L, EntOk x) {a : Int} {b : Nat} (hb : b ≤ 32) (hc : chk a b = 0) : ∀ k x, L[k]? = some x → entF a b x = true → (∀ z ∈ L.take k, entF a b z = false) → DB L k = true := by
  intro k x hx hf hn
  refine (DB_iff L k).2 ⟨b, hb, (hit_iff hx).2 ?_⟩
  rw [entF_act (hL x (List.mem_of_getElem? hx)) hc, Bool.and_eq_true] at hf
  exact ⟨hf.1, a, hf.2, fun z hz => by rw [← entF_act (hL z (List.mem_of_mem_take hz)) hc]; exact hn z hz⟩
theorem idx_dec {L : List EntV} (hL : ∀ x ∈ L, EntOk x) {a : Int} {b : Nat} (hb : b ≤ 32) (hc : chk a b = 0) {k : Nat} (h : idxP (entF a b) L = k) : DB L k = true := by
  rcases idxP_cases (entF a b) L with ⟨h1, _⟩ | ⟨k', x, h1, h2, h3, h4⟩
  · omega
  · obtain rfl : k = k' := by omega
    exact first_dec hL hb hc k x h2 h3 fun z hz => by
      obtain ⟨j, hj, hz⟩ := mem_take_idx hz
      exact h4 j z hj hz
/-- In what is left nothing is found. -/
theorem keep_dec (L : List EntV) : ∀ i, i < (keepL (DB L) L L.length).length → DB (keepL (DB L) L L.length) i = true := by
  intro i hi
  obtain ⟨x, hx⟩ : ∃ x, (keepL (DB L) L L.length)[i]? = some x := ⟨_, List.getElem?_eq_getElem hi⟩
  obtain ⟨m, hm, h1, h2, h3⟩ := keep_back (DB L) L L.length (Nat.le_refl _) i x hx
  obtain ⟨b, hb, hh⟩ := (DB_iff L m).1 h2
  obtain ⟨ha, y, hy, hn⟩ := (hit_iff h1).1 hh
  exact (DB_iff _ _).2 ⟨b, hb, (hit_iff hx).2 ⟨ha, y, hy, fun z hz => hn z (h3 z hz)⟩⟩
/-- The sets of which the pieces are made. -/
def endsB (b : Int) (x : EntV) : Bool := decide (chk x.a x.n = 0 ∧ x.n ≤ b)
def endsL (L : List EntV) (b : Int) : List (List SpanV) := (L.filter (endsB b)).map fun x => [ownS x]
theorem act_ends {x : EntV} {b : Int} (h : actB x b = true) : endsB b x = true := by
  unfold actB at h
  unfold endsB
  simp only [decide_eq_true_eq] at h ⊢
  exact ⟨h.1, h.2.1⟩
theorem endsL_flat (L : List EntV) (b : Int) : (endsL L b).flatten.length ≤ L.length := by
  unfold endsL
  have h1 := List.length_filter_le (endsB b) L
  have h2 : ∀ M : List EntV, (M.map fun x => [ownS x]).flatten.length = M.length := by
    intro M
    induction M with
    | nil => rfl
    | cons x r ih => simp at ih ⊢; omega
  rw [h2]; exact h1
theorem sz_mul {n b : Int} (h0 : 0 ≤ n) (h : n ≤ b) (h1 : b ≤ 32) : sz b ∣ sz n := by
  refine ⟨p2 (b.toNat - n.toNat), ?_⟩
  unfold sz p2
  rw [← Int.pow_add]; congr 1; omega
theorem chk_mul {a b : Int} (h0 : 0 ≤ b) (h1 : b ≤ 32) (h : sz b ∣ a) : chk a b = 0 := chk_zero a b h0 h1 (Int.emod_eq_zero_of_dvd h)
/-- A piece begins where a prefix of so many bits may. -/
theorem piece_chk {L : List EntV} (hL : ∀ x ∈ L, EntOk x) {b : Nat} (hb : b ≤ 32) {C : List Int} {i : Nat} {s : SpanV} (h : PieceAt 4294967295 (endsL L b) C i s) : chk s.lo b = 0 := by
  rcases Nat.eq_zero_or_pos i with h0 | h0
  · rw [h.first h0]
    exact chk_mul (by omega) (by omega) (Int.dvd_zero _)
  · obtain ⟨ht, _⟩ := h.turn h0
    unfold turnB at ht
    obtain ⟨M, hM, hh⟩ := List.any_eq_true.1 ht
    obtain ⟨u, hu, _, ho⟩ := turn_mark (L := M) (x := s.lo) (by simpa [bne] using hh)
    obtain ⟨x, hx, rfl⟩ := List.mem_map.1 hM
    obtain ⟨hx1, hx2⟩ := List.mem_filter.1 hx
    unfold endsB at hx2
    simp only [decide_eq_true_eq] at hx2
    simp only [List.mem_singleton] at hu
    subst hu
    obtain ⟨hn0, hn1, hm⟩ := chk_ok hx2.1
    have hok := hL x hx1
    rw [own_lo hok, own_hi hok, (end_yes hx2.1).1, (end_yes hx2.1).2] at ho
    have hd : sz x.n ∣ x.a := Int.dvd_of_emod_eq_zero hm
    have hs := sz_mul hn0 hx2.2 (by omega)
    refine chk_mul (by omega) (by omega) ?_
    rcases ho with ho | ho
    · rw [ho]; exact Int.dvd_trans hs hd
    · have e : s.lo = x.a + sz x.n := by omega
      rw [e]
      exact Int.dvd_add (Int.dvd_trans hs hd) hs
theorem piece_of {most : Int} {T : List (List SpanV)} {C : List Int} (hm : 0 ≤ most ∧ most < 4294967296) (h : StartsOf most T C) {y : Int} (h0 : 0 ≤ y) (h1 : y ≤ most) : ∃ i s, i < C.length + 1 ∧ PieceAt most T C i s ∧ s.lo ≤ y ∧ y ≤ s.hi := by
  have key : ∀ k, k ≤ C.length + 1 → y < nAt most C k → ∃ i s, i < C.length + 1 ∧ PieceAt most T C i s ∧ s.lo ≤ y ∧ y ≤ s.hi := by
    intro k
    induction k with
    | zero => intro _ hy; rw [nAt_zero] at hy; omega
    | succ k ih =>
      intro hk hy
      by_cases hl : y < nAt most C k
      · exact ih (by omega) hl
      · obtain ⟨s, hs⟩ := h.piece hm (show k < C.length + 1 by omega)
        have e1 := hs.n0
        have e2 := hs.n1
        exact ⟨k, s, by omega, hs, by omega, by omega⟩
  exact key (C.length + 1) (Nat.le_refl _) (by rw [nAt_end]; omega)
/-- What decides at so many bits is the first that fits some piece's beginning. -/
theorem hit_piece {L : List EntV} (hL : ∀ x ∈ L, EntOk x) {b : Nat} (hb : b ≤ 32) {C : List Int} (h : StartsOf 4294967295 (endsL L b) C) {i : Nat} (hh : hitB L (b : Int) i = true) : ∃ j s, j < C.length + 1 ∧ PieceAt 4294967295 (endsL L b) C j s ∧ idxP (entF s.lo b) L = i := by
  have hi : i < L.length := by
    rcases Nat.lt_or_ge i L.length with h1 | h1
    · exact h1
    · unfold hitB at hh; rw [List.getElem?_eq_none h1] at hh; simp at hh
  obtain ⟨x, hx⟩ : ∃ x, L[i]? = some x := ⟨_, List.getElem?_eq_getElem hi⟩
  obtain ⟨ha, y, hy, hn⟩ := (hit_iff hx).1 hh
  have hyr := inB_iff.1 hy
  have r1 := (ownS x).hlo
  have r2 := (ownS x).hhi
  obtain ⟨j, s, hj, hs, h1, h2⟩ := piece_of (by omega) h (y := y) (by omega) (by omega)
  have hc := piece_chk hL hb hs
  have hal : ∀ z ∈ L, (actB z b && (ownS z).inB s.lo) = (actB z b && (ownS z).inB y) := by
    intro z hz
    cases hza : actB z b with
    | false => rfl
    | true =>
      have := hs.alike [ownS z] (List.mem_map.2 ⟨z, List.mem_filter.2 ⟨hz, act_ends hza⟩, rfl⟩) y h1 h2
      rw [hasB_one, hasB_one] at this
      rw [this]
  have hxm := List.mem_of_getElem? hx
  refine ⟨j, s, hj, hs, idxP_hit (entF s.lo b) L i x hx ?_ fun k z hk hz => ?_⟩
  · rw [entF_act (hL x hxm) hc, hal x hxm, ha, hy]; rfl
  · have hzm := List.mem_of_getElem? hz
    rw [entF_act (hL z hzm) hc, hal z hzm]
    exact hn z (take_of_idx hz hk)
/-- The members. -/
theorem hasAll_refl (a : List Int) : hasAll a a = true := by
  unfold hasAll
  rw [Bool.not_eq_true', List.any_eq_false]
  intro c hc
  simp only [Bool.not_eq_true, Bool.not_eq_false']
  exact List.any_eq_true.2 ⟨c, hc, by simp⟩
theorem hasAll_iff {a b : List Int} : hasAll a b = true ↔ ∀ c ∈ a, c ∈ b := by
  unfold hasAll
  rw [Bool.not_eq_true', List.any_eq_false]
  refine forall_congr' fun c => forall_congr' fun _ => ?_
  simp
theorem hasAll_trans {a b c : List Int} (h1 : hasAll a b = true) (h2 : hasAll b c = true) : hasAll a c = true := hasAll_iff.2 fun x hx => hasAll_iff.1 h2 x (hasAll_iff.1 h1 x hx)
theorem memP_iff {Ms : List MemV} {i : Nat} {x : MemV} (h : Ms[i]? = some x) : memP Ms i = false ↔ ∀ z ∈ Ms.take i, hasAll z.L x.L = false := by
  unfold memP
  rw [h, List.any_eq_false]
  simp
theorem mem_first {Ms : List MemV} (a : List Int) : ∀ k x, Ms[k]? = some x → (fun m : MemV => hasAll m.L a) x = true → (∀ z ∈ Ms.take k, (fun m : MemV => hasAll m.L a) z = false) → (fun i => !memP Ms i) k = true := by
  intro k x hx hf hn
  show (!memP Ms k) = true
  rw [Bool.not_eq_true', memP_iff hx]
  intro z hz
  cases hh : hasAll z.L x.L with
  | false => rfl
  | true =>
    have h1 : hasAll z.L a = false := hn z hz
    have h2 : hasAll z.L a = true := hasAll_trans hh hf
    rw [h2] at h1
    cases h1
theorem mem_keep (Ms : List MemV) : ∀ i, i < (keepL (fun i => !memP Ms i) Ms Ms.length).length → memP (keepL (fun i => !memP Ms i) Ms Ms.length) i = false := by
  intro i hi
  obtain ⟨x, hx⟩ : ∃ x, (keepL (fun i => !memP Ms i) Ms Ms.length)[i]? = some x := ⟨_, List.getElem?_eq_getElem hi⟩
  obtain ⟨m, hm, h1, h2, h3⟩ := keep_back (fun i => !memP Ms i) Ms Ms.length (Nat.le_refl _) i x hx
  rw [Bool.not_eq_true'] at h2
  exact (memP_iff hx).2 fun z hz => (memP_iff h1).1 h2 z (h3 z hz)
/-- A member is the first that fits its own communities, unless it is found. -/
theorem mem_self {Ms : List MemV} {i : Nat} {x : MemV} (h : Ms[i]? = some x) : ∃ k : Nat, k ≤ i ∧ idxP (fun m : MemV => hasAll m.L x.L) Ms = k ∧ (decide (k = i) = !memP Ms i) := by
  rcases idxP_cases (fun m : MemV => hasAll m.L x.L) Ms with ⟨_, h2⟩ | ⟨k, y, h1, h2, h3, h4⟩
  · have := h2 i x h
    simp only [hasAll_refl] at this
    simp at this
  · have hki : k ≤ i := by
      rcases Nat.lt_or_ge i k with hlt | hge
      · have := h4 i x hlt h
        simp only [hasAll_refl] at this
        simp at this
      · exact hge
    refine ⟨k, hki, h1, ?_⟩
    by_cases hk : k = i
    · subst hk
      rw [(memP_iff h).2 fun z hz => by obtain ⟨j, hj, hz⟩ := mem_take_idx hz; exact h4 j z hj hz]
      simp
    · rw [decide_eq_false hk]
      cases hm : memP Ms i with
      | true => rfl
      | false =>
        have := (memP_iff h).1 hm y (take_of_idx h2 (by omega))
        rw [h3] at this
        simp at this
/-- What a slice of places has. -/
def hasI (L : List Nat) (n : Nat) : Bool := L.any fun x => x == n
theorem hasI_pl (p : Nat → Bool) (m i : Nat) (hi : i < m) : hasI (plL p m) i = p i := by
  unfold hasI plL
  rw [Bool.eq_iff_iff, List.any_eq_true]
  constructor
  · rintro ⟨x, hx, he⟩
    have := (List.mem_filter.1 hx).2
    simp at he
    subst he
    exact this
  · intro h
    exact ⟨i, List.mem_filter.2 ⟨List.mem_range.2 hi, h⟩, by simp⟩
theorem plL_none {p : Nat → Bool} {m : Nat} (h : ∀ i, i < m → p i = false) : plL p m = [] := by
  unfold plL
  rw [List.filter_eq_nil_iff]
  intro i hi
  rw [h i (List.mem_range.1 hi)]
  simp
end Go.Proofs.YtehpkpjgkmbngaaGreat

/-
  The lists: Fits, Entry, Permits, Member, Allows; the law's has.
-/
namespace Go.Proofs.YtehpkpjgkmbngaaGreat
open Go Go.RowKit Go.Sort Go.Lib

def fstV (i : Int) : Value := .tuple #[.int .i64 (if 0 ≤ i then i else 0), .bool (decide (0 ≤ i))]
theorem fst_form (i : Int) : ∃ (a : Int) (b : Bool), fstV i = .tuple #[.int .i64 a, .bool b] := ⟨_, _, rfl⟩
section
set_option maxRecDepth 100000
set_option maxHeartbeats 4000000
theorem entFits_any (x : EntV) (hx : EntOk x) (a n : Int) (ha : 0 ≤ a ∧ a < 4294967296) (w : World) :
    Calls Tryz.prog 32 #[.agg #[.bool x.permit, .int .u32 x.a, .int .i64 x.n, .int .i64 x.ge, .int .i64 x.le], .agg #[.int .u32 a, .int .i64 n]] w fun e w' => e = .returned (.bool (entF a n x)) ∧ Below w.heap.size w w' := by
  have hb := below2 w (.cells #[.bool x.permit, .int .u32 x.a, .int .i64 x.n, .int .i64 x.ge, .int .i64 x.le] 40) (.cells #[.int .u32 a, .int .i64 n] 38)
  obtain ⟨k0, k1⟩ := blk2 w (.cells #[.bool x.permit, .int .u32 x.a, .int .i64 x.n, .int .i64 x.ge, .int .i64 x.le] 40) (.cells #[.int .u32 a, .int .i64 n] 38)
  have HB := Lib.hid hb
  have K0 := Lib.hid k0
  have K1 := Lib.hid k1
  clear hb k0 k1
  go_enter Tryz.func32, Tryz.ntmps32
  go_upto_region 1 with fail
  generalize (w.alloc (.cells #[.bool x.permit, .int .u32 x.a, .int .i64 x.n, .int .i64 x.ge, .int .i64 x.le] 40)).alloc (.cells #[.int .u32 a, .int .i64 n] 38) = w1 at *
  have p0 := cell_of_row _ _ 0 _ _ (0, 0) K1.out
  have p1 := cell_of_row _ _ 1 _ _ (0, 0) K1.out
  have e1 := cell_of_row _ _ 1 _ _ (0, 0) K0.out
  have e2 := cell_of_row _ _ 2 _ _ (0, 0) K0.out
  simp only [List.getElem?_toArray, List.getElem?_cons_zero, List.getElem?_cons_succ] at p0 p1 e1 e2
  have HW := Lib.hid (addrWithin_any a n x.a x.n w1 ha.1 ha.2 hx.1 hx.2)
  have HF : Hid (entF a n x = (withinB a n x.a x.n && decide (x.ge ≤ n) && decide (n ≤ x.le))) := Lib.hid rfl
  generalize withinB a n x.a x.n = q at *
  have HR : Hid (∀ q1 q2, decide (x.ge ≤ n) = q1 → decide (n ≤ x.le) = q2 → entF a n x = (q && q1 && q2)) := Lib.hid fun q1 q2 h1 h2 => by rw [HF.out, h1, h2]
  clear HF
  cases q
  · go_wp2_with ((with_reducible refine HW.out.mono ?_); rintro e w2 ⟨rfl, hb2⟩; have HB2 := Lib.hid (HB.out.trans (hb2.mono HB.out.size)); clear hb2)
    go_ret
    exact ⟨by rw [HR.out _ _ rfl rfl]; rfl, HB2.out⟩
  · by_cases h1 : x.ge ≤ n
    · go_wp2_with ((with_reducible refine HW.out.mono ?_); rintro e w2 ⟨rfl, hb2⟩; have HB2 := Lib.hid (HB.out.trans (hb2.mono HB.out.size)); have g1 := cell_of_row _ _ 1 _ _ (0, 0) (blk_below hb2 K1.out); have g3 := cell_of_row _ _ 3 _ _ (0, 0) (blk_below hb2 K0.out); have g4 := cell_of_row _ _ 4 _ _ (0, 0) (blk_below hb2 K0.out); clear hb2; simp only [List.getElem?_toArray, List.getElem?_cons_zero, List.getElem?_cons_succ] at g1 g3 g4)
      go_ret
      exact ⟨by rw [HR.out true _ (by simp [h1]) rfl]; rfl, HB2.out⟩
    · go_wp2_with ((with_reducible refine HW.out.mono ?_); rintro e w2 ⟨rfl, hb2⟩; have HB2 := Lib.hid (HB.out.trans (hb2.mono HB.out.size)); have g1 := cell_of_row _ _ 1 _ _ (0, 0) (blk_below hb2 K1.out); have g3 := cell_of_row _ _ 3 _ _ (0, 0) (blk_below hb2 K0.out); have g4 := cell_of_row _ _ 4 _ _ (0, 0) (blk_below hb2 K0.out); clear hb2; simp only [List.getElem?_toArray, List.getElem?_cons_zero, List.getElem?_cons_succ] at g1 g3 g4)
      go_ret
      exact ⟨by rw [HR.out false _ (by simp [h1]) rfl]; rfl, HB2.out⟩
theorem lsEntryFn_any (x : EntV) (hx : EntOk x) (a n : Int) (ha : 0 ≤ a ∧ a < 4294967296) (w : World) (g : Nat) (hg : w.heap[g]? = some (.cells #[.int .u32 a, .int .i64 n] 38 (0, 0))) :
    Calls Tryz.prog 31 #[.agg #[.bool x.permit, .int .u32 x.a, .int .i64 x.n, .int .i64 x.ge, .int .i64 x.le], .pointer (some ⟨g, 0, none⟩)] w fun e w' => e = .returned (.bool (entF a n x)) ∧ Below w.heap.size w w' := by
  have hb := below1 w (.cells #[.bool x.permit, .int .u32 x.a, .int .i64 x.n, .int .i64 x.ge, .int .i64 x.le] 40)
  have k0 := blk1 w (.cells #[.bool x.permit, .int .u32 x.a, .int .i64 x.n, .int .i64 x.ge, .int .i64 x.le] 40)
  have HB := Lib.hid hb
  have K0 := Lib.hid k0
  have K1 := Lib.hid (blk_below hb hg)
  clear hb k0 hg
  obtain ⟨q, hq⟩ : ∃ q, entF a n x = q := ⟨_, rfl⟩
  rw [hq]
  go_enter Tryz.func31, Tryz.ntmps31
  go_upto_region 1 with fail
  generalize w.alloc (.cells #[.bool x.permit, .int .u32 x.a, .int .i64 x.n, .int .i64 x.ge, .int .i64 x.le] 40) = w1 at *
  have p0 := cell_of_row _ _ 0 _ _ (0, 0) K1.out
  have p1 := cell_of_row _ _ 1 _ _ (0, 0) K1.out
  have e0 := cell_of_row _ _ 0 _ _ (0, 0) K0.out
  have e1 := cell_of_row _ _ 1 _ _ (0, 0) K0.out
  have e2 := cell_of_row _ _ 2 _ _ (0, 0) K0.out
  have e3 := cell_of_row _ _ 3 _ _ (0, 0) K0.out
  have e4 := cell_of_row _ _ 4 _ _ (0, 0) K0.out
  simp only [List.getElem?_toArray, List.getElem?_cons_zero, List.getElem?_cons_succ] at p0 p1 e0 e1 e2 e3 e4
  have HW := Lib.hid (entFits_any x hx a n ha w1)
  rw [hq] at HW
  go_wp2_with ((with_reducible refine HW.out.mono ?_); rintro e w2 ⟨rfl, hb2⟩; have HB2 := Lib.hid (HB.out.trans (hb2.mono HB.out.size)); clear hb2)
  go_ret
  exact ⟨rfl, HB2.out⟩
theorem firstE_any (L : List EntV) (v : Value) (p : EntV → Bool) (fid : FuncId) (caps : Array Value) (w : World) (en : ∀ (args : Array Value) (W : World), (callFunc fid args).run Tryz.prog W = .ok (.enter fid args) W) (hp : ∀ (x : EntV) W, x ∈ L → Below w.heap.size w W → Calls Tryz.prog fid (#[.agg #[.bool x.permit, .int .u32 x.a, .int .i64 x.n, .int .i64 x.ge, .int .i64 x.le]] ++ caps) W fun e W' => e = .returned (.bool (p x)) ∧ Below W.heap.size W W') (h : Rd w w.heap.size 5 v L.length (ecells L)) (hlen : L.length ≤ 9223372036854775807) :
    Calls Tryz.prog 30 #[v, .func (.func fid) #[] caps] w fun e w' => e = .returned (fstV (idxP p L)) ∧ Below w.heap.size w w' := by
  have HI := Lib.hid (indexFnE_any L v p fid caps w en hp h hlen)
  obtain ⟨A, c, rfl, hc⟩ := h.form
  clear h hp en
  rcases idxP_cases p L with ⟨h1, _⟩ | ⟨k, x, h1, h2, _⟩
  · rw [h1] at HI ⊢
    clear h1
    go_enter Tryz.func30, Tryz.ntmps30
    go_wp2_with ((with_reducible refine HI.out.mono ?_); rintro e w2 ⟨rfl, hb2⟩; have HB2 := Lib.hid hb2; clear hb2)
    go_ret2
    exact ⟨rfl, HB2.out⟩
  · have hk : k < L.length := (List.getElem?_eq_some_iff.1 h2).1
    rw [h1] at HI ⊢
    clear h1
    have hI : (0 : Int) ≤ (k : Int) := by omega
    have hM : max (k : Int) 0 = (k : Int) := by omega
    have hM2 : max (0 : Int) (k : Int) = (k : Int) := by omega
    go_enter Tryz.func30, Tryz.ntmps30
    go_wp2_with ((with_reducible refine HI.out.mono ?_); rintro e w2 ⟨rfl, hb2⟩; have HB2 := Lib.hid hb2; clear hb2)
    go_ret2
    exact ⟨by unfold fstV; simp, HB2.out⟩
theorem firstM_any (L : List MemV) (v : Value) (p : MemV → Bool) (fid : FuncId) (caps : Array Value) (w : World) (en : ∀ (args : Array Value) (W : World), (callFunc fid args).run Tryz.prog W = .ok (.enter fid args) W) (hp : ∀ (x : MemV) W, x ∈ L → Below w.heap.size w W → Calls Tryz.prog fid (#[.agg #[.bool x.permit, x.v]] ++ caps) W fun e W' => e = .returned (.bool (p x)) ∧ Below W.heap.size W W') (h : Rd w w.heap.size 2 v L.length (mcells L)) (hlen : L.length ≤ 9223372036854775807) :
    Calls Tryz.prog 33 #[v, .func (.func fid) #[] caps] w fun e w' => e = .returned (fstV (idxP p L)) ∧ Below w.heap.size w w' := by
  have HI := Lib.hid (indexFnM_any L v p fid caps w en hp h hlen)
  obtain ⟨A, c, rfl, hc⟩ := h.form
  clear h hp en
  rcases idxP_cases p L with ⟨h1, _⟩ | ⟨k, x, h1, h2, _⟩
  · rw [h1] at HI ⊢
    clear h1
    go_enter Tryz.func33, Tryz.ntmps33
    go_wp2_with ((with_reducible refine HI.out.mono ?_); rintro e w2 ⟨rfl, hb2⟩; have HB2 := Lib.hid hb2; clear hb2)
    go_ret2
    exact ⟨rfl, HB2.out⟩
  · have hk : k < L.length := (List.getElem?_eq_some_iff.1 h2).1
    rw [h1] at HI ⊢
    clear h1
    have hI : (0 : Int) ≤ (k : Int) := by omega
    have hM : max (k : Int) 0 = (k : Int) := by omega
    have hM2 : max (0 : Int) (k : Int) = (k : Int) := by omega
    go_enter Tryz.func33, Tryz.ntmps33
    go_wp2_with ((with_reducible refine HI.out.mono ?_); rintro e w2 ⟨rfl, hb2⟩; have HB2 := Lib.hid hb2; clear hb2)
    go_ret2
    exact ⟨by unfold fstV; simp, HB2.out⟩
theorem lsEntry_any (nm : ByteArray) (v : Value) (L : List EntV) (a n : Int) (w : World) (hL : ∀ x ∈ L, EntOk x) (ha : 0 ≤ a ∧ a < 4294967296) (h : Rd w w.heap.size 5 v L.length (ecells L)) (hlen : L.length ≤ 9223372036854775807) :
    Calls Tryz.prog 11 #[.agg #[.string nm, v], .agg #[.int .u32 a, .int .i64 n]] w fun e w' => e = .returned (fstV (idxP (entF a n) L)) ∧ Below w.heap.size w w' := by
  obtain ⟨A, c, rfl, _⟩ := h.form
  have hb := below2 w (.cells #[.string nm, .slice A L.length c] 24) (.cells #[.int .u32 a, .int .i64 n] 38)
  obtain ⟨k0, k1⟩ := blk2 w (.cells #[.string nm, .slice A L.length c] 24) (.cells #[.int .u32 a, .int .i64 n] 38)
  have HB := Lib.hid hb
  have K0 := Lib.hid k0
  have K1 := Lib.hid k1
  have HR := Lib.hid ((h.below hb).mono hb.size)
  clear hb k0 k1 h
  obtain ⟨fa, fb, hf⟩ := fst_form (idxP (entF a n) L)
  rw [hf]
  go_enter Tryz.func11, Tryz.ntmps11
  go_upto_region 1 with fail
  generalize (w.alloc (.cells #[.string nm, .slice A L.length c] 24)).alloc (.cells #[.int .u32 a, .int .i64 n] 38) = w1 at *
  have c1 := cell_of_row _ _ 1 _ _ (0, 0) K0.out
  simp only [List.getElem?_toArray, List.getElem?_cons_zero, List.getElem?_cons_succ] at c1
  have HI := Lib.hid (firstE_any L (.slice A L.length c) (entF a n) 31 #[.pointer (some ⟨w.heap.size + 1, 0, none⟩)] w1 (enters_of Tryz.func31 (by kernel_rfl) rfl) (fun x W hx hbW => lsEntryFn_any x (hL x hx) a n ha W (w.heap.size + 1) (blk_below hbW K1.out)) HR.out hlen)
  rw [hf] at HI
  clear hf
  go_wp2_with ((with_reducible refine HI.out.mono ?_); rintro e w2 ⟨rfl, hb2⟩; have HB2 := Lib.hid (HB.out.trans (hb2.mono HB.out.size)); clear hb2)
  go_ret2
  exact ⟨rfl, HB2.out⟩
theorem entPermits_any (nm : ByteArray) (v : Value) (L : List EntV) (a n : Int) (w : World) (hL : ∀ x ∈ L, EntOk x) (ha : 0 ≤ a ∧ a < 4294967296) (h : Rd w w.heap.size 5 v L.length (ecells L)) (hlen : L.length ≤ 9223372036854775807) :
    Calls Tryz.prog 10 #[.agg #[.string nm, v], .agg #[.int .u32 a, .int .i64 n]] w fun e w' => e = .returned (.bool (permL EntV.permit (entF a n) L)) ∧ Below w.heap.size w w' := by
  obtain ⟨A, c, rfl, _⟩ := h.form
  have hb := below2 w (.cells #[.string nm, .slice A L.length c] 24) (.cells #[.int .u32 a, .int .i64 n] 38)
  obtain ⟨k0, k1⟩ := blk2 w (.cells #[.string nm, .slice A L.length c] 24) (.cells #[.int .u32 a, .int .i64 n] 38)
  have HB := Lib.hid hb
  have K0 := Lib.hid k0
  have K1 := Lib.hid k1
  have HR := Lib.hid ((h.below hb).mono hb.size)
  clear hb k0 k1 h
  obtain ⟨pb, hpb⟩ : ∃ pb, permL EntV.permit (entF a n) L = pb := ⟨_, rfl⟩
  rw [hpb]
  unfold permL at hpb
  go_enter Tryz.func10, Tryz.ntmps10
  go_upto_region 1 with fail
  generalize (w.alloc (.cells #[.string nm, .slice A L.length c] 24)).alloc (.cells #[.int .u32 a, .int .i64 n] 38) = w1 at *
  have c0 := cell_of_row _ _ 0 _ _ (0, 0) K0.out
  have c1 := cell_of_row _ _ 1 _ _ (0, 0) K0.out
  have p0 := cell_of_row _ _ 0 _ _ (0, 0) K1.out
  have p1 := cell_of_row _ _ 1 _ _ (0, 0) K1.out
  simp only [List.getElem?_toArray, List.getElem?_cons_zero, List.getElem?_cons_succ] at c0 c1 p0 p1
  have HI := Lib.hid (lsEntry_any nm (.slice A L.length c) L a n w1 hL ha HR.out hlen)
  unfold fstV at HI
  rcases idxF_find (entF a n) L with ⟨h1, h2⟩ | ⟨k, x, h1, h2, h3⟩
  · rw [h1] at HI
    rw [h2] at hpb
    clear h1 h2
    obtain rfl : false = pb := hpb
    go_wp2_with ((with_reducible refine HI.out.mono ?_); rintro e w2 ⟨rfl, hb2⟩; have HB2 := Lib.hid (HB.out.trans (hb2.mono HB.out.size)); clear hb2)
    go_ret
    exact ⟨rfl, HB2.out⟩
  · rw [h1] at HI
    rw [h3] at hpb
    obtain rfl : x.permit = pb := hpb
    have hk : k < L.length := (List.getElem?_eq_some_iff.1 h2).1
    have hI : (0 : Int) ≤ (k : Int) := by omega
    have hI2 : (k : Int) < (L.length : Int) := by omega
    have HI2 : Hid (Calls Tryz.prog 11 #[.agg #[.string nm, .slice A L.length c], .agg #[.int .u32 a, .int .i64 n]] w1 fun e w' => e = .returned (.tuple #[.int .i64 k, .bool true]) ∧ Below w1.heap.size w1 w') := Lib.hid (by have h := HI.out; simpa using h)
    clear h1 h3 HI
    obtain ⟨b, off, c', hv, _, hbB, hcell⟩ := HR.out.posAt (by omega)
    injection hv with hv1 hvl hv3
    subst hv1 hv3
    clear hvl
    have HC := Lib.hid (hcell k 0 _ (ecell h2 rfl))
    have HLT := Lib.hid hbB
    clear hcell hbB h2
    go_wp2_with ((with_reducible refine HI2.out.mono ?_); rintro e w2 ⟨rfl, hb2⟩; have HB2 := Lib.hid (HB.out.trans (hb2.mono HB.out.size)); have d1 := cell_of_row _ _ 1 _ _ (0, 0) (blk_below hb2 K0.out); have d2 : w2.cell? ⟨b, off + k * 5 + 0, none⟩ = some (.bool x.permit) := (hb2.cell (p := ⟨b, off + k * 5 + 0, none⟩) HLT.out).trans HC.out; rw [Nat.add_zero] at d2; clear hb2; simp only [List.getElem?_toArray, List.getElem?_cons_zero, List.getElem?_cons_succ] at d1)
    go_ret
    exact ⟨rfl, HB2.out⟩
theorem lsCommFn_any (comm : List Int) (v2 : Value) (c : Int) (w : World) (g : Nat) (hg : w.heap[g]? = some (.cells #[v2] 46 (0, 0))) (h : Rd w w.heap.size 1 v2 comm.length (u32c comm)) (hlen : comm.length ≤ 9223372036854775807) :
    Calls Tryz.prog 35 #[.int .u32 c, .pointer (some ⟨g, 0, none⟩)] w fun e w' => e = .returned (.bool (!(comm.any fun y => y == c))) ∧ Below w.heap.size w w' := by
  obtain ⟨A, cc, rfl, _⟩ := h.form
  have c0 := cell0 hg
  have HC := Lib.hid (containsU_any comm _ c w h hlen)
  have HB := Lib.hid (Below.refl w.heap.size w)
  clear hg h
  go_enter Tryz.func35, Tryz.ntmps35
  generalize (comm.any fun y => y == c) = q at *
  go_wp2_with ((with_reducible refine HC.out.mono ?_); rintro e _ ⟨rfl, rfl⟩)
  go_ret
  exact ⟨rfl, HB.out⟩
theorem lsMemberFn_any (m : MemV) (comm : List Int) (v2 : Value) (w : World) (g : Nat) (hg : w.heap[g]? = some (.cells #[v2] 46 (0, 0))) (h : Rd w w.heap.size 1 v2 comm.length (u32c comm)) (hlen : comm.length ≤ 9223372036854775807) (hm : Rd w w.heap.size 1 m.v m.L.length (u32c m.L)) (hml : m.L.length ≤ 9223372036854775807) :
    Calls Tryz.prog 34 #[.agg #[.bool m.permit, m.v], .pointer (some ⟨g, 0, none⟩)] w fun e w' => e = .returned (.bool (hasAll m.L comm)) ∧ Below w.heap.size w w' := by
  have hb := below1 w (.cells #[.bool m.permit, m.v] 48)
  have hmm := (hm.below hb).mono hb.size
  have hcm := (h.below hb).mono hb.size
  obtain ⟨A, cc, hmv, _⟩ := hmm.form
  have c0 : (w.alloc (.cells #[.bool m.permit, m.v] 48)).cell? ⟨w.heap.size, 1, none⟩ = some m.v := cell_of_row _ _ 1 _ _ (0, 0) (blk1 w (.cells #[.bool m.permit, m.v] 48))
  have hcf := containsFnU_any m.L m.v (fun c => !(comm.any fun y => y == c)) 35 #[.pointer (some ⟨g, 0, none⟩)] (w.alloc (.cells #[.bool m.permit, m.v] 48)) (enters_of Tryz.func35 (by kernel_rfl) rfl)
    (fun c W' _ hb' => lsCommFn_any comm v2 c W' g (blk_below hb' (blk_below hb hg)) ((hcm.below hb').mono hb'.size) hlen) hmm hml
  rw [hmv] at hcf
  have HCF := Lib.hid hcf
  have HB := Lib.hid hb
  rw [hmv] at HB
  clear hmm hcf hb hcm hm h hg
  rw [hmv] at c0 ⊢
  have HD : Hid (hasAll m.L comm = !(m.L.any fun c => !(comm.any fun y => y == c))) := Lib.hid rfl
  rw [HD.out]
  generalize (m.L.any fun c => !(comm.any fun y => y == c)) = q at *
  go_enter Tryz.func34, Tryz.ntmps34
  go_upto_region 1 with fail
  generalize w.alloc (.cells #[.bool m.permit, .slice A m.L.length cc] 48) = W1 at *
  go_wp2_with ((with_reducible refine HCF.out.mono ?_); rintro e W2 ⟨rfl, hb2⟩; have HB2 := Lib.hid (HB.out.trans (hb2.mono HB.out.size)); clear hb2)
  go_ret
  exact ⟨rfl, HB2.out⟩
theorem lsMember_any (nm : ByteArray) (v v2 : Value) (Ms : List MemV) (comm : List Int) (w : World) (hM : MsAt w w.heap.size v Ms) (hn : Ms.length ≤ 1099511627776) (h : Rd w w.heap.size 1 v2 comm.length (u32c comm)) (hlen : comm.length ≤ 9223372036854775807) :
    Calls Tryz.prog 12 #[.agg #[.string nm, v], v2] w fun e w' => e = .returned (fstV (idxP (fun m : MemV => hasAll m.L comm) Ms)) ∧ Below w.heap.size w w' := by
  obtain ⟨A, c, rfl, _⟩ := hM.1.form
  obtain ⟨A2, c2, rfl, _⟩ := h.form
  have hb := below2 w (.cells #[.string nm, .slice A Ms.length c] 27) (.cells #[.slice A2 comm.length c2] 46)
  obtain ⟨k0, k1⟩ := blk2 w (.cells #[.string nm, .slice A Ms.length c] 27) (.cells #[.slice A2 comm.length c2] 46)
  have HB := Lib.hid hb
  have K0 := Lib.hid k0
  have K1 := Lib.hid k1
  have HR := Lib.hid ((h.below hb).mono hb.size)
  have HM := Lib.hid ((hM.below hb).mono hb.size)
  clear hb k0 k1 h hM
  obtain ⟨fa, fb, hf⟩ := fst_form (idxP (fun m : MemV => hasAll m.L comm) Ms)
  rw [hf]
  go_enter Tryz.func12, Tryz.ntmps12
  go_upto_region 1 with fail
  generalize (w.alloc (.cells #[.string nm, .slice A Ms.length c] 27)).alloc (.cells #[.slice A2 comm.length c2] 46) = w1 at *
  have d1 := cell_of_row _ _ 1 _ _ (0, 0) K0.out
  simp only [List.getElem?_toArray, List.getElem?_cons_zero, List.getElem?_cons_succ] at d1
  have HI := Lib.hid (firstM_any Ms (.slice A Ms.length c) (fun m : MemV => hasAll m.L comm) 34 #[.pointer (some ⟨w.heap.size + 1, 0, none⟩)] w1 (enters_of Tryz.func34 (by kernel_rfl) rfl) (fun x W hx hbW => lsMemberFn_any x comm _ W (w.heap.size + 1) (blk_below hbW K1.out) ((HR.out.below hbW).mono hbW.size) hlen (((HM.out.2 x hx).1.below hbW).mono hbW.size) (HM.out.2 x hx).2) HM.out.1 (by omega))
  rw [hf] at HI
  clear hf
  go_wp2_with ((with_reducible refine HI.out.mono ?_); rintro e w2 ⟨rfl, hb2⟩; have HB2 := Lib.hid (HB.out.trans (hb2.mono HB.out.size)); clear hb2)
  go_ret2
  exact ⟨rfl, HB2.out⟩
theorem lsAllows_any (nm : ByteArray) (v v2 : Value) (Ms : List MemV) (comm : List Int) (w : World) (hM : MsAt w w.heap.size v Ms) (hn : Ms.length ≤ 1099511627776) (h : Rd w w.heap.size 1 v2 comm.length (u32c comm)) (hlen : comm.length ≤ 9223372036854775807) :
    Calls Tryz.prog 13 #[.agg #[.string nm, v], v2] w fun e w' => e = .returned (.bool (permL MemV.permit (fun m : MemV => hasAll m.L comm) Ms)) ∧ Below w.heap.size w w' := by
  obtain ⟨A, c, rfl, _⟩ := hM.1.form
  obtain ⟨A2, c2, rfl, _⟩ := h.form
  have hb := below1 w (.cells #[.string nm, .slice A Ms.length c] 27)
  have k0 := blk1 w (.cells #[.string nm, .slice A Ms.length c] 27)
  have HB := Lib.hid hb
  have K0 := Lib.hid k0
  have HR := Lib.hid ((h.below hb).mono hb.size)
  have HM := Lib.hid ((hM.below hb).mono hb.size)
  clear hb k0 h hM
  obtain ⟨pb, hpb⟩ : ∃ pb, permL MemV.permit (fun m : MemV => hasAll m.L comm) Ms = pb := ⟨_, rfl⟩
  rw [hpb]
  unfold permL at hpb
  go_enter Tryz.func13, Tryz.ntmps13
  go_upto_region 1 with fail
  generalize w.alloc (.cells #[.string nm, .slice A Ms.length c] 27) = w1 at *
  have d0 := cell_of_row _ _ 0 _ _ (0, 0) K0.out
  have d1 := cell_of_row _ _ 1 _ _ (0, 0) K0.out
  simp only [List.getElem?_toArray, List.getElem?_cons_zero, List.getElem?_cons_succ] at d0 d1
  have HI := Lib.hid (lsMember_any nm (.slice A Ms.length c) (.slice A2 comm.length c2) Ms comm w1 HM.out hn HR.out hlen)
  unfold fstV at HI
  rcases idxF_find (fun m : MemV => hasAll m.L comm) Ms with ⟨h1, h2⟩ | ⟨k, x, h1, h2, h3⟩
  · rw [h1] at HI
    rw [h2] at hpb
    clear h1 h2
    obtain rfl : false = pb := hpb
    go_wp2_with ((with_reducible refine HI.out.mono ?_); rintro e w2 ⟨rfl, hb2⟩; have HB2 := Lib.hid (HB.out.trans (hb2.mono HB.out.size)); clear hb2)
    go_ret
    exact ⟨rfl, HB2.out⟩
  · rw [h1] at HI
    rw [h3] at hpb
    obtain rfl : x.permit = pb := hpb
    have hk : k < Ms.length := (List.getElem?_eq_some_iff.1 h2).1
    have hI : (0 : Int) ≤ (k : Int) := by omega
    have hI2 : (k : Int) < (Ms.length : Int) := by omega
    have HI2 : Hid (Calls Tryz.prog 12 #[.agg #[.string nm, .slice A Ms.length c], .slice A2 comm.length c2] w1 fun e w' => e = .returned (.tuple #[.int .i64 k, .bool true]) ∧ Below w1.heap.size w1 w') := Lib.hid (by have h := HI.out; simpa using h)
    clear h1 h3 HI
    obtain ⟨b, off, c', hv, _, hbB, hcell⟩ := HM.out.1.posAt (by omega)
    injection hv with hv1 hvl hv3
    subst hv1 hv3
    clear hvl
    have HC := Lib.hid (hcell k 0 _ (mcell h2 rfl))
    have HLT := Lib.hid hbB
    clear hcell hbB h2
    go_wp2_with ((with_reducible refine HI2.out.mono ?_); rintro e w2 ⟨rfl, hb2⟩; have HB2 := Lib.hid (HB.out.trans (hb2.mono HB.out.size)); have d3 := cell_of_row _ _ 1 _ _ (0, 0) (blk_below hb2 K0.out); have d2 : w2.cell? ⟨b, off + k * 2 + 0, none⟩ = some (.bool x.permit) := (hb2.cell (p := ⟨b, off + k * 2 + 0, none⟩) HLT.out).trans HC.out; rw [Nat.add_zero] at d2; clear hb2; simp only [List.getElem?_toArray, List.getElem?_cons_zero, List.getElem?_cons_succ] at d3)
    go_ret
    exact ⟨rfl, HB2.out⟩
theorem lnHas_any (P : List Nat) (v : Value) (y : Nat) (w : World) (h : Rd w w.heap.size 1 v P.length (ncl P)) (hlen : P.length ≤ 1099511627776) :
    Calls Tryz.prog 8 #[v, .int .i64 y] w fun e w' => e = .returned (.bool (hasI P y)) ∧ w' = w := by
  obtain ⟨A, c, rfl, hc⟩ := h.form
  have HR := Lib.hid h
  clear h
  go_enter Tryz.func8, Tryz.ntmps8
  go_wp2
  go_loopw [5] (fun i wr => ∃ k : Nat, i = .int .i64 k ∧ k ≤ P.length ∧ Hid (∀ (j x : Nat), j < k → P[j]? = some x → (x == y) = false) ∧ wr = w) (fun i _ => P.length - (intOf i).toNat)
  case atStart => exact ⟨0, rfl, by omega, Lib.hid (fun j x hj _ => by omega), rfl⟩
  case round =>
    obtain ⟨k, rfl, hk, HN, rfl⟩ := hrel
    by_cases hlt : k < P.length
    · have hI : (k : Int) < (P.length : Int) := by omega
      obtain ⟨x, hx⟩ : ∃ x, P[k]? = some x := ⟨_, List.getElem?_eq_getElem hlt⟩
      obtain ⟨b, off, c', hv, _, hbB, hcell⟩ := HR.out.pos (by omega)
      injection hv with hv1 hvl hv3
      subst hv1 hv3
      clear hvl
      have c0 : wr.cell? ⟨b, off + k, none⟩ = some (.int .i64 (x : Int)) := hcell k _ (by simp [ncl, hx])
      have HX := Lib.hid hx
      clear hcell hx
      by_cases hq : x = y
      · subst hq
        go_wp2
        go_ret
        exact ⟨by rw [show hasI P x = true from List.any_eq_true.2 ⟨x, List.mem_of_getElem? HX.out, by simp⟩]; rfl, rfl⟩
      · have hq2 : ((x : Int) == (y : Int)) = false := by simp; omega
        go_wp2
        exact ⟨⟨k + 1, by go_num, by omega, Lib.hid (fun j z hj hz => by
          rcases Nat.lt_or_ge j k with h1 | h1
          · exact HN.out j z h1 hz
          · obtain rfl : j = k := by omega
            rw [HX.out] at hz
            injection hz with hz
            subst hz
            simpa using hq), (by first | trivial | rfl)⟩, by simp only [intOf]; omega⟩
    · obtain rfl : k = P.length := by omega
      have hI : ¬ (P.length : Int) < (P.length : Int) := by omega
      have HFIN : Hid (hasI P y = false) := Lib.hid (List.any_eq_false.2 fun x hx => by
        obtain ⟨j, hj⟩ := List.mem_iff_getElem?.1 hx
        rw [HN.out j x (List.getElem?_eq_some_iff.1 hj).1 hj]
        simp)
      go_wp2
      go_ret
      exact ⟨by rw [HFIN.out]; rfl, rfl⟩
end
end Go.Proofs.YtehpkpjgkmbngaaGreat

/-
  What the linter finds in a prefix list: lint.Entries.
-/
namespace Go.Proofs.YtehpkpjgkmbngaaGreat
open Go Go.RowKit Go.ChangeMaps Go.MapKept Go.Maps Go.Lib Go.Sort

theorem Tryz.infoBoolE : (Tryz.prog.info? 4).map (fun i => (i.zero, i.size, i.bytes)) = some (some (.bool false), 1, 1) := by kernel_rfl
def bls (L : List Bool) : Array Value := (L.map Value.bool).toArray
theorem bls_get {L : List Bool} {i : Nat} {b : Bool} (h : L[i]? = some b) : (bls L)[i]? = some (.bool b) := by simp [bls, h]
theorem bls_set (L : List Bool) (i : Nat) (b : Bool) : (bls L).setIfInBounds i (.bool b) = bls (L.set i b) := by
  unfold bls
  apply Array.ext'
  simp [List.map_set]
theorem mkBoolsN (w : World) (n : Nat) (hn : n ≤ 1099511627776) : (Instr.makeSlice 33 (.int .i64 n) (.int .i64 n)).run Tryz.prog w = .ok (.slice (some ⟨w.heap.size, 0, none⟩) n n) (w.alloc (.cells (bls (List.replicate n false)) 4)) := by
  obtain ⟨i0, hi, hz0, hz1, hz2⟩ := info_parts Tryz.infoBoolE
  have hb : (i0.bytes : Int) * (n : Int) ≤ 281474976710656 := by rw [hz2]; omega
  have h := run_make (P := Tryz.prog) w 33 4 i0 _ Tryz.underlying33 hi hz0 .i64 .i64 (n : Int) (n : Int) (by omega) (Int.le_refl _) hb (by omega)
  have e : madeCells (Value.bool false).cells ((n : Int).toNat * i0.size) = bls (List.replicate n false) := by
    rw [hz1, Int.toNat_natCast, Nat.mul_one]
    apply Array.ext'
    refine (toList_madeCells_one _ _).trans ?_
    simp [bls]
  rw [e] at h
  simpa using h
theorem decL_zero (L : List EntV) : decL L 0 0 = List.replicate L.length false := by
  rw [List.eq_replicate_iff]
  refine ⟨decL_len L 0 0, fun b hb => ?_⟩
  unfold decL at hb
  obtain ⟨i, _, rfl⟩ := List.mem_map.1 hb
  exact decB_zero L i
/-- What lint.Entries has laid: the list's box, the row of what decides, the row's cell. -/
structure EnSt (w : World) (nm : ByteArray) (v : Value) (n : Nat) (Ds : List Bool) (W : World) : Prop where
  box : W.heap[w.heap.size]? = some (.cells #[.string nm, v] 24 (0, 0))
  row : W.heap[w.heap.size + 1]? = some (.cells (bls Ds) 4 (0, 0))
  cel : W.heap[w.heap.size + 2]? = some (.cells #[.slice (some ⟨w.heap.size + 1, 0, none⟩) n n] 33 (0, 0))
  bel : Below w.heap.size w W
theorem EnSt.next {w : World} {nm : ByteArray} {v : Value} {n : Nat} {Ds : List Bool} {W W' : World} (h : EnSt w nm v n Ds W) (hb : Below W.heap.size W W') : EnSt w nm v n Ds W' :=
  ⟨blk_below hb h.box, blk_below hb h.row, blk_below hb h.cel, h.bel.trans (hb.mono h.bel.size)⟩
theorem EnSt.set {w : World} {nm : ByteArray} {v : Value} {n : Nat} {Ds : List Bool} {W : World} (h : EnSt w nm v n Ds W) (i : Nat) : EnSt w nm v n (Ds.set i true) (W.setCell ⟨w.heap.size + 1, i, none⟩ (.bool true)) :=
  ⟨set_far h.box (by show w.heap.size ≠ w.heap.size + 1; omega), by rw [set_at h.row, bls_set], set_far h.cel (by show w.heap.size + 2 ≠ w.heap.size + 1; omega), h.bel.setCell (p := ⟨w.heap.size + 1, i, none⟩) (by show w.heap.size ≤ w.heap.size + 1; omega) _⟩
theorem owns_setI {w : World} {base g i n : Nat} {e : TypeId} {k : Nat} {v u : Value} {xs : List Value} (h : w.ownsRow base e k v n xs) (hg : g < base) : (w.setCell ⟨g, i, none⟩ u).ownsRow base e k v n xs := by
  obtain ⟨hl, h2⟩ := h
  rcases h2 with h2 | ⟨g', cap, cur, rfl, hb, hh, r⟩
  · exact ⟨hl, .inl h2⟩
  · exact ⟨hl, .inr ⟨g', cap, cur, rfl, hb, set_far hh (by show g' ≠ g; omega), r⟩⟩
theorem hit_off {L : List EntV} {b : Int} {i : Nat} {x : EntV} (h : L[i]? = some x) (ha : actB x b = false) : hitB L b i = false := by rw [hit_some h, ha]; rfl
section
set_option maxRecDepth 100000
set_option maxHeartbeats 8000000
theorem entriesFn_any (Ds : List Bool) (i : Nat) (b : Bool) (w : World) (D C n : Nat) (hD : w.heap[D]? = some (.cells (bls Ds) 4 (0, 0))) (hC : w.heap[C]? = some (.cells #[.slice (some ⟨D, 0, none⟩) n n] 33 (0, 0))) (hi : i < n) (hb : Ds[i]? = some b) :
    Calls Tryz.prog 21 #[.int .i64 i, .pointer (some ⟨C, 0, none⟩)] w fun e w' => e = .returned (.bool (!b)) ∧ Below w.heap.size w w' := by
  have c0 := cell0 hC
  have c1 : w.cell? ⟨D, i, none⟩ = some (.bool b) := by
    rw [cell_of_row _ _ i _ _ (0, 0) hD]
    exact bls_get hb
  have hI : (i : Int) < (n : Int) := by omega
  have HB := Lib.hid (Below.refl w.heap.size w)
  clear hC hD
  go_enter Tryz.func21, Tryz.ntmps21
  go_wp2
  go_ret
  exact ⟨rfl, HB.out⟩
theorem entries_any (nm : ByteArray) (v : Value) (L : List EntV) (w : World) (hL : ∀ x ∈ L, EntOk x) (h : Rd w w.heap.size 5 v L.length (ecells L)) (hlen : L.length ≤ 1000) :
    Calls Tryz.prog 6 #[.agg #[.string nm, v]] w fun e w' => ∃ u, e = .returned u ∧ w'.ownsRow w.heap.size 3 1 u (plL (fun i => !DB L i) L.length).length (ncl (plL (fun i => !DB L i) L.length)) ∧ Below w.heap.size w w' := by
  obtain ⟨A, c, rfl, hc⟩ := h.form
  have hmk := fun W => mkBoolsN W L.length (by omega)
  have HB0 := Lib.hid (below1 w (.cells #[.string nm, .slice A L.length c] 24))
  have b1 : (w.alloc (.cells #[.string nm, .slice A L.length c] 24)).cell? ⟨w.heap.size, 1, none⟩ = some (.slice A L.length c) := cell_of_row _ _ 1 _ _ (0, 0) (blk1 w _)
  have HK0 := Lib.hid (blk1 w (.cells #[.string nm, .slice A L.length c] 24))
  have HR := Lib.hid h
  have HL := Lib.hid hL
  have hs0 : (w.alloc (.cells #[.string nm, .slice A L.length c] 24)).heap.size = w.heap.size + 1 := by simp
  clear h hL
  go_enter Tryz.func6, Tryz.ntmps6
  go_upto_region 1 with fail
  generalize w.alloc (.cells #[.string nm, .slice A L.length c] 24) = w0 at *
  go_wp2
  have hb2 := below2 w0 (.cells (bls (List.replicate L.length false)) 4) (.cells #[.slice (some ⟨w0.heap.size, 0, none⟩) L.length L.length] 33)
  obtain ⟨k1, k2⟩ := blk2 w0 (.cells (bls (List.replicate L.length false)) 4) (.cells #[.slice (some ⟨w0.heap.size, 0, none⟩) L.length L.length] 33)
  rw [hs0] at k1 k2
  have HS : Hid (EnSt w nm (.slice A L.length c) L.length (decL L 0 0) ((w0.alloc (.cells (bls (List.replicate L.length false)) 4)).alloc (.cells #[.slice (some ⟨w0.heap.size, 0, none⟩) L.length L.length] 33))) := Lib.hid ⟨blk_below hb2 HK0.out, by
      rw [decL_zero, hs0]; exact k1, by rw [hs0]; exact k2, HB0.out.trans (hb2.mono HB0.out.size)⟩
  clear k1 k2 hb2 b1 HK0
  rw [hs0] at HS
  generalize (w0.alloc (.cells (bls (List.replicate L.length false)) 4)).alloc (.cells #[.slice (some ⟨w.heap.size + 1, 0, none⟩) L.length L.length] 33) = w2 at *
  go_loopw [16] (fun i wr => ∃ k : Nat, i = .int .i64 k ∧ k ≤ 33 ∧ Hid (EnSt w nm (.slice A L.length c) L.length (decL L k 0) wr)) (fun i _ => 33 - (intOf i).toNat)
  case atStart => exact ⟨0, rfl, by omega, HS⟩
  case round =>
    obtain ⟨k, rfl, hk, HK⟩ := hrel
    by_cases hlt : k < 33
    · have hI : (k : Int) < 33 := by omega
      have d1 : wr.cell? ⟨w.heap.size, 1, none⟩ = some (.slice A L.length c) := cell_of_row _ _ 1 _ _ (0, 0) HK.out.box
      go_wp2
      clear d1
      go_loopw [5, 22] (fun r i wq => ∃ m : Nat, i = .int .i64 m ∧ m ≤ L.length ∧ Hid (EnSt w nm (.slice A L.length c) L.length (decL L k m) wq) ∧ Hid (wq.ownsRow (w.heap.size + 3) 78 2 r (aheadL L k m).length (scells (aheadL L k m)))) (fun _ i _ => L.length - (intOf i).toNat)
      case atStart => exact ⟨0, rfl, by omega, HK, Lib.hid (World.ownsRow_nil _ _ _ _)⟩
      case round =>
        obtain ⟨m, rfl, hm, HM, HO⟩ := hrel
        obtain ⟨Ar, cr, rfl, _⟩ := owns_form HO.out
        by_cases hlm : m < L.length
        · have hJ : (m : Int) < (L.length : Int) := by omega
          obtain ⟨x, hx⟩ : ∃ x, L[m]? = some x := ⟨_, List.getElem?_eq_getElem hlm⟩
          obtain ⟨b, off, c', hv, _, hbB, hcell⟩ := HR.out.posAt (by omega)
          injection hv with hv1 hvl hv3
          subst hv1 hv3
          clear hvl
          have e0 : wr.cell? ⟨b, off + m * 5, none⟩ = some (.bool x.permit) := (HM.out.bel.cell (p := ⟨b, off + m * 5, none⟩) hbB).trans (hcell m 0 _ (ecell hx rfl))
          have e1 : wr.cell? ⟨b, off + m * 5 + 1, none⟩ = some (.int .u32 x.a) := (HM.out.bel.cell (p := ⟨b, off + m * 5 + 1, none⟩) hbB).trans (hcell m 1 _ (ecell hx rfl))
          have e2 : wr.cell? ⟨b, off + m * 5 + 2, none⟩ = some (.int .i64 x.n) := (HM.out.bel.cell (p := ⟨b, off + m * 5 + 2, none⟩) hbB).trans (hcell m 2 _ (ecell hx rfl))
          have e3 : wr.cell? ⟨b, off + m * 5 + 3, none⟩ = some (.int .i64 x.ge) := (HM.out.bel.cell (p := ⟨b, off + m * 5 + 3, none⟩) hbB).trans (hcell m 3 _ (ecell hx rfl))
          have e4 : wr.cell? ⟨b, off + m * 5 + 4, none⟩ = some (.int .i64 x.le) := (HM.out.bel.cell (p := ⟨b, off + m * 5 + 4, none⟩) hbB).trans (hcell m 4 _ (ecell hx rfl))
          have HX := Lib.hid hx
          clear hcell hx
          have HOK := Lib.hid (HL.out x (List.mem_of_getElem? HX.out))
          have hal := ahead_len L k m
          go_upto_region 9 with fail
          have HM1 := Lib.hid (HM.out.next (below1 wr (.cells #[.bool x.permit, .int .u32 x.a, .int .i64 x.n, .int .i64 x.ge, .int .i64 x.le] 40)))
          have HO1 := Lib.hid (owns_kept_none HO.out (only_of_below (below1 wr (.cells #[.bool x.permit, .int .u32 x.a, .int .i64 x.n, .int .i64 x.ge, .int .i64 x.le] 40)) none))
          have HK1 := Lib.hid (blk1 wr (.cells #[.bool x.permit, .int .u32 x.a, .int .i64 x.n, .int .i64 x.ge, .int .i64 x.le] 40))
          clear e0 e1 e2 e3 e4 HM HO
          generalize wr.heap.size = gx at *
          generalize wr.alloc (.cells #[.bool x.permit, .int .u32 x.a, .int .i64 x.n, .int .i64 x.ge, .int .i64 x.le] 40) = W1 at *
          have p1 := cell_of_row _ _ 1 _ _ (0, 0) HK1.out
          have p2 := cell_of_row _ _ 2 _ _ (0, 0) HK1.out
          simp only [List.getElem?_toArray, List.getElem?_cons_zero, List.getElem?_cons_succ] at p1 p2
          have HEND := Lib.hid (addrEnds_any x.a x.n W1 HOK.out.1 HOK.out.2)
          rw [← own_lo HOK.out, ← own_hi HOK.out] at HEND
          obtain ⟨E, hE⟩ : ∃ E, chk x.a x.n = E := ⟨_, rfl⟩
          rw [hE] at HEND
          have HE := Lib.hid hE
          clear hE
          go_upto_region 10 with ((with_reducible refine HEND.out.mono ?_); rintro e W2 ⟨rfl, hb2⟩; have HM2 := Lib.hid (HM1.out.next hb2); have HO2 := Lib.hid (owns_kept_none HO1.out (only_of_below hb2 none)); have HK2 := Lib.hid (blk_below hb2 HK1.out); clear hb2)
          clear p1 p2 HEND HM1 HO1 HK1
          have f2 := cell_of_row _ _ 2 _ _ (0, 0) HK2.out
          have f3 := cell_of_row _ _ 3 _ _ (0, 0) HK2.out
          have f4 := cell_of_row _ _ 4 _ _ (0, 0) HK2.out
          simp only [List.getElem?_toArray, List.getElem?_cons_zero, List.getElem?_cons_succ] at f2 f3 f4
          by_cases he : E = 0
          case neg =>
            have he2 : (E != 0) = true := by simpa using he
            have HA : Hid (actB x k = false) := Lib.hid (by unfold actB; rw [HE.out]; simp [he])
            go_wp2
            exact ⟨⟨m + 1, by go_num, by omega, Lib.hid (by rw [decL_no (hit_off HX.out HA.out)]; exact HM2.out), Lib.hid (by rw [ahead_no HX.out HA.out]; exact HO2.out)⟩, by simp only [intOf]; omega⟩
          by_cases h1 : x.n ≤ (k : Int)
          case neg =>
            subst he
            have h1' : (k : Int) < x.n := by omega
            have HA : Hid (actB x k = false) := Lib.hid (by unfold actB; rw [HE.out]; simp [h1])
            go_wp2
            exact ⟨⟨m + 1, by go_num, by omega, Lib.hid (by rw [decL_no (hit_off HX.out HA.out)]; exact HM2.out), Lib.hid (by rw [ahead_no HX.out HA.out]; exact HO2.out)⟩, by simp only [intOf]; omega⟩
          by_cases h2 : x.ge ≤ (k : Int)
          case neg =>
            subst he
            have h2' : (k : Int) < x.ge := by omega
            have h1' : ¬ (k : Int) < x.n := by omega
            have HA : Hid (actB x k = false) := Lib.hid (by unfold actB; rw [HE.out]; simp [h2])
            go_wp2
            exact ⟨⟨m + 1, by go_num, by omega, Lib.hid (by rw [decL_no (hit_off HX.out HA.out)]; exact HM2.out), Lib.hid (by rw [ahead_no HX.out HA.out]; exact HO2.out)⟩, by simp only [intOf]; omega⟩
          by_cases h3 : (k : Int) ≤ x.le
          case neg =>
            subst he
            have h3' : x.le < (k : Int) := by omega
            have h2' : ¬ (k : Int) < x.ge := by omega
            have h1' : ¬ (k : Int) < x.n := by omega
            have HA : Hid (actB x k = false) := Lib.hid (by unfold actB; rw [HE.out]; simp [h3])
            go_wp2
            exact ⟨⟨m + 1, by go_num, by omega, Lib.hid (by rw [decL_no (hit_off HX.out HA.out)]; exact HM2.out), Lib.hid (by rw [ahead_no HX.out HA.out]; exact HO2.out)⟩, by simp only [intOf]; omega⟩
          subst he
          have HA : Hid (actB x k = true) := Lib.hid (by unfold actB; rw [HE.out]; simp [h1, h2, h3])
          have h1' : ¬ (k : Int) < x.n := by omega
          have h2' : ¬ (k : Int) < x.ge := by omega
          have h3' : ¬ x.le < (k : Int) := by omega
          go_upto_region 12 with fail
          clear f2 f3 f4 HK2 h1 h2 h3 h1' h2' h3'
          have HM3 := Lib.hid (HM2.out.next (below1 W2 (.cells #[.int .u32 (ownS x).lo, .int .u32 (ownS x).hi] 78)))
          have HO3 := Lib.hid (owns_kept_none HO2.out (only_of_below (below1 W2 (.cells #[.int .u32 (ownS x).lo, .int .u32 (ownS x).hi] 78)) none))
          have HG3 := Lib.hid (blk1 W2 (.cells #[.int .u32 (ownS x).lo, .int .u32 (ownS x).hi] 78))
          have HLT := Lib.hid (lt_of_block HM2.out.cel)
          clear HM2 HO2
          generalize W2.heap.size = gs at *
          generalize W2.alloc (.cells #[.int .u32 (ownS x).lo, .int .u32 (ownS x).hi] 78) = W3 at *
          have HLS := Lib.hid (less_any [ownS x] (aheadL L k m) (.slice (some ⟨gs, 0, none⟩) 1 1) (.slice Ar (aheadL L k m).length cr) W3 (Rd.of_blk HG3.out (Nat.le_refl _) rfl) (Rd.of_own HO3.out) (by show 1 ≤ 1048576; omega) (by omega))
          obtain ⟨T, hT⟩ : ∃ T, theSet (fun y => hasB [ownS x] y && !hasB (aheadL L k m) y) = T := ⟨_, rfl⟩
          rw [hT] at HLS
          have HHT : Hid (hitB L k m = decide (0 < T.length)) := Lib.hid (by rw [hit_some HX.out, HA.out, hT]; rfl)
          clear hT
          by_cases hp : 0 < T.length
          · have hI2 : (0 : Int) < (T.length : Int) := by omega
            have HH : Hid (hitB L k m = true) := Lib.hid (by rw [HHT.out]; simp [hp])
            go_upto_region 13 with ((with_reducible refine HLS.out.mono ?_); rintro e W4 ⟨v4, rfl, ho4, hb4⟩; obtain ⟨A4, c4, rfl, _⟩ := owns_form ho4; have HM4 := Lib.hid (HM3.out.next hb4); have HO4 := Lib.hid (owns_kept_none HO3.out (only_of_below hb4 none)); have HG4 := Lib.hid (blk_below hb4 HG3.out); clear ho4 hb4)
            clear HLS HM3 HO3 HG3
            have c0 : W4.cell? ⟨w.heap.size + 1 + 1, 0, none⟩ = some (.slice (some ⟨w.heap.size + 1, 0, none⟩) L.length L.length) := cell0 HM4.out.cel
            have z0 : W4.cell? ⟨w.heap.size + 1, m, none⟩ = some (.bool (decB L k m m)) := by
              rw [cell_of_row _ _ m _ _ (0, 0) HM4.out.row]
              exact bls_get (decL_get L k m m hlm)
            have z1 := frozen_of_row _ _ m _ _ HM4.out.row
            go_upto_region 14 with fail
            clear c0 z0 z1
            have HM5 := Lib.hid (HM4.out.set m)
            have HO5 := Lib.hid (owns_setI (g := w.heap.size + 1) (i := m) (u := .bool true) HO4.out (by omega))
            have HG5 : Hid ((W4.setCell ⟨w.heap.size + 1, m, none⟩ (.bool true)).heap[gs]? = some (.cells #[.int .u32 (ownS x).lo, .int .u32 (ownS x).hi] 78 (0, 0))) := Lib.hid (set_far HG4.out (by have := HLT.out; show gs ≠ w.heap.size + 1; omega))
            clear HM4 HO4 HG4
            generalize W4.setCell ⟨w.heap.size + 1, m, none⟩ (.bool true) = W5 at *
            have HOR := Lib.hid (or_any (aheadL L k m) [ownS x] (.slice Ar (aheadL L k m).length cr) (.slice (some ⟨gs, 0, none⟩) 1 1) W5 (Rd.of_own HO5.out) (Rd.of_blk HG5.out (Nat.le_refl _) rfl) (NilOk.of_own HO5.out) (fun n c h => by cases h) (by omega) (by show 1 ≤ 268435456; omega))
            rw [theSet_or, ← ahead_yes HX.out HA.out] at HOR
            go_wp2_with ((with_reducible refine HOR.out.mono ?_); rintro e W6 ⟨v6, rfl, ho6, hb6⟩; have HO6 := Lib.hid (owns_base ho6 (show w.heap.size + 3 ≤ W5.heap.size from lt_of_block HM5.out.cel)); have HM6 := Lib.hid (HM5.out.next hb6); clear ho6 hb6)
            exact ⟨⟨m + 1, by go_num, by omega, Lib.hid (by rw [decL_yes HH.out]; exact HM6.out), HO6⟩, by simp only [intOf]; omega⟩
          · have hI2 : ¬ (0 : Int) < (T.length : Int) := by omega
            have HH : Hid (hitB L k m = false) := Lib.hid (by rw [HHT.out]; simp [hp])
            go_upto_region 14 with ((with_reducible refine HLS.out.mono ?_); rintro e W5 ⟨v4, rfl, ho4, hb4⟩; obtain ⟨A4, c4, rfl, _⟩ := owns_form ho4; have HM5 := Lib.hid (HM3.out.next hb4); have HO5 := Lib.hid (owns_kept_none HO3.out (only_of_below hb4 none)); have HG5 := Lib.hid (blk_below hb4 HG3.out); clear ho4 hb4)
            clear HLS HM3 HO3 HG3
            have HOR := Lib.hid (or_any (aheadL L k m) [ownS x] (.slice Ar (aheadL L k m).length cr) (.slice (some ⟨gs, 0, none⟩) 1 1) W5 (Rd.of_own HO5.out) (Rd.of_blk HG5.out (Nat.le_refl _) rfl) (NilOk.of_own HO5.out) (fun n c h => by cases h) (by omega) (by show 1 ≤ 268435456; omega))
            rw [theSet_or, ← ahead_yes HX.out HA.out] at HOR
            go_wp2_with ((with_reducible refine HOR.out.mono ?_); rintro e W6 ⟨v6, rfl, ho6, hb6⟩; have HO6 := Lib.hid (owns_base ho6 (show w.heap.size + 3 ≤ W5.heap.size from lt_of_block HM5.out.cel)); have HM6 := Lib.hid (HM5.out.next hb6); clear ho6 hb6)
            exact ⟨⟨m + 1, by go_num, by omega, Lib.hid (by rw [decL_no HH.out]; exact HM6.out), HO6⟩, by simp only [intOf]; omega⟩
        · obtain rfl : m = L.length := by omega
          have hJ : ¬ (L.length : Int) < (L.length : Int) := by omega
          have HN : Hid (EnSt w nm (.slice A L.length c) L.length (decL L (k + 1) 0) wr) := Lib.hid (by rw [← decL_next]; exact HM.out)
          go_wp2
          exact ⟨⟨k + 1, by go_num, by omega, HN⟩, by simp only [intOf]; omega⟩
    · obtain rfl : k = 33 := by omega
      have hI : ¬ ((33 : Nat) : Int) < 33 := by omega
      have d2 := cell0 HK.out.cel
      have HPL := Lib.hid (places_any L.length 21 #[.pointer (some ⟨w.heap.size + 2, 0, none⟩)] (fun i => !DB L i) wr (enters_of Tryz.func21 (by kernel_rfl) rfl) (fun i W hi hbW => entriesFn_any (decL L 33 0) i (DB L i) W _ _ L.length (blk_below hbW HK.out.row) (blk_below hbW HK.out.cel) hi (decL_get L 33 0 i hi)) (by omega))
      go_wp2_with ((with_reducible refine HPL.out.mono ?_); rintro e w3 ⟨u, rfl, ho3, hb3⟩; have HO3 := Lib.hid (owns_base ho3 HK.out.bel.size); have HB3 := Lib.hid (HK.out.bel.trans (hb3.mono HK.out.bel.size)); clear ho3 hb3)
      go_ret
      exact ⟨_, rfl, HO3.out, HB3.out⟩
end
end Go.Proofs.YtehpkpjgkmbngaaGreat

/-
  The document's Each: a prefix for each way in which entries can hold it.
-/
namespace Go.Proofs.YtehpkpjgkmbngaaGreat
open Go Go.RowKit Go.ChangeMaps Go.MapKept Go.Maps Go.Lib Go.Sort

theorem Tryz.infoSpL : (Tryz.prog.info? 81).map (fun i => (i.zero, i.size, i.bytes)) = some (some (.slice none 0 0), 1, 24) := by kernel_rfl
theorem Tryz.infoPfE : (Tryz.prog.info? 38).map (fun i => (i.zero, i.size, i.bytes)) = some (some (.agg #[.int .u32 0, .int .i64 0]), 2, 16) := by kernel_rfl
/-- The prefixes that begin where the pieces do. -/
def pfc (P : List SpanV) (b : Nat) : List Value := P.flatMap fun s : SpanV => [.int .u32 s.lo, .int .i64 b]
theorem pfc_app (P Q : List SpanV) (b : Nat) : pfc (P ++ Q) b = pfc P b ++ pfc Q b := by simp [pfc]
theorem pfc_len (P : List SpanV) (b : Nat) : (pfc P b).length = P.length * 2 := flat_len (fun s : SpanV => [.int .u32 s.lo, .int .i64 b]) 2 (fun _ => rfl) P
theorem pfcell {P : List SpanV} {b k i : Nat} {s : SpanV} {v : Value} (hr : P[k]? = some s) (hv : [Value.int .u32 s.lo, .int .i64 (b : Int)][i]? = some v) : (pfc P b)[k * 2 + i]? = some v := flat_get (fun s : SpanV => [.int .u32 s.lo, .int .i64 b]) 2 (fun _ => rfl) P k i s v hr hv
/-- What Each has laid. -/
structure EaSt (w : World) (nm : ByteArray) (v : Value) (r : Value) (S : List SetV) (W : World) : Prop where
  box : W.heap[w.heap.size]? = some (.cells #[.string nm, v] 24 (0, 0))
  row : W.ownsRow (w.heap.size + 1) 81 1 r S.length (svals S)
  set : ∀ x ∈ S, ∃ (g : Nat) (s : SpanV), x = ⟨.slice (some ⟨g, 0, none⟩) 1 1, [s]⟩ ∧ W.heap[g]? = some (.cells #[.int .u32 s.lo, .int .u32 s.hi] 78 (0, 0)) ∧ r.ownBlock ≠ some g
  bel : Below w.heap.size w W
section
variable {w : World} {nm : ByteArray} {v r : Value} {S : List SetV} {W W' : World}
theorem EaSt.next (h : EaSt w nm v r S W) (hb : Below W.heap.size W W') : EaSt w nm v r S W' :=
  ⟨blk_below hb h.box, owns_kept_none h.row (only_of_below hb none), fun x hx => by
    obtain ⟨g, s, h1, h2, h3⟩ := h.set x hx
    exact ⟨g, s, h1, blk_below hb h2, h3⟩, h.bel.trans (hb.mono h.bel.size)⟩
theorem EaSt.lt (h : EaSt w nm v r S W) : w.heap.size + 1 ≤ W.heap.size := lt_of_block h.box
theorem EaSt.push (h : EaSt w nm v r S W) {s : SpanV} {r' : Value} (hrow : W'.ownsRow (w.heap.size + 1) 81 1 r' (S.length + 1) (svals S ++ [.slice (some ⟨W.heap.size, 0, none⟩) 1 1])) (hg : (W.alloc (.cells #[.int .u32 s.lo, .int .u32 s.hi] 78)).grownBy W' r.ownBlock) (hm : Moved r r' (W.alloc (.cells #[.int .u32 s.lo, .int .u32 s.hi] 78)).heap.size) :
    EaSt w nm v r' (S ++ [⟨.slice (some ⟨W.heap.size, 0, none⟩) 1 1, [s]⟩]) W' := by
  have hb1 := below1 W (.cells #[.int .u32 s.lo, .int .u32 s.hi] 78)
  have h1 := h.next hb1
  have hsz : (W.alloc (.cells #[.int .u32 s.lo, .int .u32 s.hi] 78)).heap.size = W.heap.size + 1 := by simp
  have hrl : ∀ g, r.ownBlock = some g → w.heap.size + 1 ≤ g ∧ g < W.heap.size := fun g hg => h.row.lt g hg
  have keep : ∀ (g : Nat) (o : Obj), (W.alloc (.cells #[.int .u32 s.lo, .int .u32 s.hi] 78)).heap[g]? = some o → r.ownBlock ≠ some g → W'.heap[g]? = some o := fun g o h2 h3 => (hg.block g (lt_of_block h2) (fun e => h3 e.symm)).trans h2
  have hmv : ∀ g, g < W.heap.size + 1 → r.ownBlock ≠ some g → r'.ownBlock ≠ some g := fun g hlt hne e => by
    rcases hm with hm | hm
    · exact hne (hm ▸ e)
    · have := hm g e; omega
  refine ⟨keep _ _ h1.box (fun e => by have := (hrl _ e).1; omega), by rw [List.length_append]; simpa [svals] using hrow, fun x hx => ?_, h1.bel.grown hg (by rw [hsz]; have := h.bel.size; omega) (fun k hk => by have := (hrl k hk).1; omega)⟩
  rcases List.mem_append.1 hx with hx | hx
  · obtain ⟨g, t, e1, e2, e3⟩ := h1.set x hx
    have hlt : g < W.heap.size + 1 := by have := lt_of_block e2; omega
    exact ⟨g, t, e1, keep g _ e2 e3, hmv g hlt e3⟩
  · simp only [List.mem_singleton] at hx
    have hne : r.ownBlock ≠ some W.heap.size := fun e => by have := (hrl _ e).2; omega
    exact ⟨W.heap.size, s, hx, keep _ _ (blk1 W _) hne, hmv _ (by omega) hne⟩
theorem EaSt.at (h : EaSt w nm v r S W) : SetsAt W W.heap.size r S := by
  refine ⟨Rd.of_own h.row, fun x hx => ?_⟩
  obtain ⟨g, s, rfl, h2, _⟩ := h.set x hx
  exact Rd.of_blk (cs := #[.int .u32 s.lo, .int .u32 s.hi]) h2 (Nat.le_refl _) rfl
end
theorem ends_yes {L : List EntV} {b : Int} {m : Nat} {x : EntV} (h : L[m]? = some x) (he : endsB b x = true) : endsL (L.take (m + 1)) b = endsL (L.take m) b ++ [[ownS x]] := by
  unfold endsL
  rw [List.take_add_one, h]
  simp [he]
theorem ends_no {L : List EntV} {b : Int} {m : Nat} {x : EntV} (h : L[m]? = some x) (he : endsB b x = false) : endsL (L.take (m + 1)) b = endsL (L.take m) b := by
  unfold endsL
  rw [List.take_add_one, h]
  simp [he]
theorem endsL_len (L : List EntV) (b : Int) : (endsL L b).length ≤ L.length := by
  unfold endsL
  rw [List.length_map]
  exact List.length_filter_le _ _
section
set_option maxRecDepth 100000
set_option maxHeartbeats 8000000
theorem pfEach_any (nm : ByteArray) (v : Value) (L : List EntV) (b : Nat) (w : World) (hL : ∀ x ∈ L, EntOk x) (h : Rd w w.heap.size 5 v L.length (ecells L)) (hlen : L.length ≤ 1000) :
    Calls Tryz.prog 9 #[.agg #[.string nm, v], .int .i64 b] w fun e w' => ∃ (u : Value) (C : List Int), e = .returned u ∧ StartsOf 4294967295 (endsL L b) C ∧ C.length ≤ 2000 ∧ w'.ownsRow w.heap.size 38 2 u (C.length + 1) (pfc (pcs 4294967295 0 C) b) ∧ Below w.heap.size w w' := by
  obtain ⟨i1, hj, hy0, hy1, hy2⟩ := info_parts Tryz.infoSpL
  obtain ⟨i2, hp, hq0, hq1, hq2⟩ := info_parts Tryz.infoPfE
  obtain ⟨A, c, rfl, hc⟩ := h.form
  have HB0 := Lib.hid (below1 w (.cells #[.string nm, .slice A L.length c] 24))
  have HK0 := Lib.hid (blk1 w (.cells #[.string nm, .slice A L.length c] 24))
  have HR := Lib.hid h
  have HL := Lib.hid hL
  clear h hL
  go_enter Tryz.func9, Tryz.ntmps9
  go_upto_region 1 with fail
  generalize w.alloc (.cells #[.string nm, .slice A L.length c] 24) = w0 at *
  go_wp2
  go_loopw [5, 6] (fun r i wr => ∃ (m : Nat) (S : List SetV), i = .int .i64 m ∧ m ≤ L.length ∧ Hid (setsL S = endsL (L.take m) b) ∧ Hid (EaSt w nm (.slice A L.length c) r S wr)) (fun _ i _ => L.length - (intOf i).toNat)
  case atStart => exact ⟨0, [], rfl, by omega, Lib.hid rfl, Lib.hid ⟨HK0.out, World.ownsRow_nil _ _ _ _, fun x hx => by simp at hx, HB0.out⟩⟩
  case round =>
    obtain ⟨m, S, rfl, hm, HT, HS⟩ := hrel
    obtain ⟨Ar, cr, rfl, _⟩ := owns_form HS.out.row
    have hSl : S.length ≤ 1000 := by
      have e1 : (setsL S).length = S.length := by simp [setsL]
      have e2 := endsL_len (L.take m) b
      rw [← HT.out, e1, List.length_take] at e2
      omega
    have d1 : wr.cell? ⟨w.heap.size, 1, none⟩ = some (.slice A L.length c) := cell_of_row _ _ 1 _ _ (0, 0) HS.out.box
    by_cases hlm : m < L.length
    · have hJ : (m : Int) < (L.length : Int) := by omega
      obtain ⟨x, hx⟩ : ∃ x, L[m]? = some x := ⟨_, List.getElem?_eq_getElem hlm⟩
      obtain ⟨g, off, c', hv, _, hbB, hcell⟩ := HR.out.posAt (by omega)
      injection hv with hv1 hvl hv3
      subst hv1 hv3
      clear hvl
      have e1 : wr.cell? ⟨g, off + m * 5 + 1, none⟩ = some (.int .u32 x.a) := (HS.out.bel.cell (p := ⟨g, off + m * 5 + 1, none⟩) hbB).trans (hcell m 1 _ (ecell hx rfl))
      have e2 : wr.cell? ⟨g, off + m * 5 + 2, none⟩ = some (.int .i64 x.n) := (HS.out.bel.cell (p := ⟨g, off + m * 5 + 2, none⟩) hbB).trans (hcell m 2 _ (ecell hx rfl))
      have HX := Lib.hid hx
      clear hcell hx
      have HOK := Lib.hid (HL.out x (List.mem_of_getElem? HX.out))
      go_upto_region 6 with fail
      have HS1 := Lib.hid (HS.out.next (below1 wr (.cells #[.int .u32 x.a, .int .i64 x.n] 38)))
      have HK1 := Lib.hid (blk1 wr (.cells #[.int .u32 x.a, .int .i64 x.n] 38))
      clear e1 e2 d1 HS
      generalize wr.heap.size = gx at *
      generalize wr.alloc (.cells #[.int .u32 x.a, .int .i64 x.n] 38) = W1 at *
      have p0 := cell_of_row _ _ 0 _ _ (0, 0) HK1.out
      have p1 := cell_of_row _ _ 1 _ _ (0, 0) HK1.out
      simp only [List.getElem?_toArray, List.getElem?_cons_zero, List.getElem?_cons_succ] at p0 p1
      have HEND := Lib.hid (refEnds_any x.a x.n W1 HOK.out.1 HOK.out.2)
      rw [← own_lo HOK.out, ← own_hi HOK.out] at HEND
      obtain ⟨E, hE⟩ : ∃ E, chk x.a x.n = E := ⟨_, rfl⟩
      rw [hE] at HEND
      have HE := Lib.hid hE
      clear hE
      go_upto_region 7 with ((with_reducible refine HEND.out.mono ?_); rintro e W2 ⟨rfl, hb2⟩; have HS2 := Lib.hid (HS1.out.next hb2); have HK2 := Lib.hid (blk_below hb2 HK1.out); clear hb2)
      clear p0 p1 HEND HS1 HK1
      have p1 := cell_of_row _ _ 1 _ _ (0, 0) HK2.out
      simp only [List.getElem?_toArray, List.getElem?_cons_zero, List.getElem?_cons_succ] at p1
      by_cases he : E = 0
      · subst he
        by_cases hn : x.n ≤ b
        · have HYES : Hid (endsL (L.take (m + 1)) b = endsL (L.take m) b ++ [[ownS x]]) := Lib.hid (ends_yes HX.out (by unfold endsB; simp [HE.out, hn]))
          have HS3 := Lib.hid (HS2.out.next (below1 W2 (.cells #[.int .u32 (ownS x).lo, .int .u32 (ownS x).hi] 78)))
          go_wp2_with (at_builtin; refine wpList_push2 (v := .slice Ar S.length cr) rfl _ _ 92 rfl 81 i1 _ 1 24 Tryz.underlying92 hj hy0 hy1 hy2 rfl (by decide) (by decide) [.slice (some ⟨W2.heap.size, 0, none⟩) 1 1] rfl rfl (by simp) HS3.out.row rfl (by intro u hu; simp only [List.mem_cons, List.not_mem_nil, or_false] at hu; subst hu; rfl) (by omega) HS3.out.lt ?_; intro v3 w3 hown3 hg3 hm3; have HS4 := Lib.hid (HS2.out.push (s := ownS x) hown3 hg3 hm3); clear hown3 hg3 hm3)
          exact ⟨⟨m + 1, _, by go_num, by omega, Lib.hid (by rw [HYES.out, ← HT.out]; simp [setsL]), HS4⟩, by simp only [intOf]; omega⟩
        · have HNO : Hid (endsL (L.take (m + 1)) b = endsL (L.take m) b) := Lib.hid (ends_no HX.out (by unfold endsB; simp [hn]))
          go_wp2
          exact ⟨⟨m + 1, S, by go_num, by omega, Lib.hid (by rw [HNO.out, ← HT.out]), HS2⟩, by simp only [intOf]; omega⟩
      · have he2 : (E == 0) = false := by simpa using he
        have HNO : Hid (endsL (L.take (m + 1)) b = endsL (L.take m) b) := Lib.hid (ends_no HX.out (by unfold endsB; simp [HE.out, he]))
        go_wp2
        exact ⟨⟨m + 1, S, by go_num, by omega, Lib.hid (by rw [HNO.out, ← HT.out]), HS2⟩, by simp only [intOf]; omega⟩
    · obtain rfl : m = L.length := by omega
      have hJ : ¬ (L.length : Int) < (L.length : Int) := by omega
      have hset : setsL S = endsL L b := by rw [HT.out, List.take_length]
      have hflat : (allS S).length ≤ 1000 := by
        rw [allS_flat, hset]
        exact Nat.le_trans (endsL_flat L b) hlen
      have HPC := Lib.hid (refPieces_any 4294967295 S (.slice Ar S.length cr) wr HS.out.at (by omega) (by omega) (by omega))
      have HSET := Lib.hid hset
      have HFL := Lib.hid (show ∀ C, StartsOf 4294967295 (endsL L b) C → C.length ≤ 2000 from fun C hC => by
        have h1 := hC.len
        have h2 := endsL_flat L b
        omega)
      clear hset hflat
      go_upto_region 10 with ((with_reducible refine HPC.out.mono ?_); rintro e w3 ⟨vp, k, C, rfl, hst, hres, hb3⟩; rw [HSET.out] at hst; have hcl := HFL.out C hst; obtain ⟨_, rfl, hown⟩ : C.length < 65536 ∧ k = 0 ∧ w3.ownsRow wr.heap.size 78 2 vp (pcs 4294967295 0 C).length (scells (pcs 4294967295 0 C)) := (hres.resolve_right fun h1 => absurd h1.1 (by omega)); obtain ⟨Ap, cp, rfl, _⟩ := owns_form hown; have HST := Lib.hid hst; have HOWN := Lib.hid (Rd.of_own hown); have HB3 := Lib.hid (HS.out.bel.trans (hb3.mono HS.out.bel.size)); clear hst hres hb3 hown)
      rw [pcs_len] at HOWN ⊢
      have HPL := Lib.hid (pcs_len 4294967295 0 C)
      go_wp2
      go_loopw [13, 14] (fun r i wq => ∃ m : Nat, i = .int .i64 m ∧ m ≤ C.length + 1 ∧ Hid (wq.ownsRow w3.heap.size 38 2 r m (pfc ((pcs 4294967295 0 C).take m) b)) ∧ Hid (Below w3.heap.size w3 wq)) (fun _ i _ => C.length + 1 - (intOf i).toNat)
      case atStart => exact ⟨0, rfl, by omega, Lib.hid (World.ownsRow_nil _ _ _ _), Lib.hid (Below.refl _ _)⟩
      case round =>
        obtain ⟨q, rfl, hq, HO, HB⟩ := hrel
        obtain ⟨Ao, co, rfl, _⟩ := owns_form HO.out
        by_cases hlq : q < C.length + 1
        · have hI : (q : Int) < (C.length : Int) + 1 := by omega
          obtain ⟨s, hs⟩ : ∃ s, (pcs 4294967295 0 C)[q]? = some s := ⟨_, List.getElem?_eq_getElem (by rw [HPL.out]; exact hlq)⟩
          obtain ⟨g, off, c', hv, _, hbB, hcell⟩ := HOWN.out.posAt (by omega)
          injection hv with hv1 hvl hv3
          subst hv1 hv3
          clear hvl
          have e1 : wr.cell? ⟨g, off + q * 2, none⟩ = some (.int .u32 s.lo) := (HB.out.cell (p := ⟨g, off + q * 2, none⟩) hbB).trans (hcell q 0 _ (scell hs rfl))
          have hbs := HB.out.size
          have HT2 : Hid (pfc ((pcs 4294967295 0 C).take (q + 1)) b = pfc ((pcs 4294967295 0 C).take q) b ++ [.int .u32 s.lo, .int .i64 b]) := Lib.hid (by rw [take_snoc hs, pfc_app]; rfl)
          clear hcell hs
          go_wp2_with (at_builtin; refine wpList_push2 (v := .slice Ao q co) rfl _ _ 41 rfl 38 i2 _ 2 16 Tryz.underlying41 hp hq0 hq1 hq2 rfl (by decide) (by decide) [.int .u32 s.lo, .int .i64 b] rfl rfl rfl HO.out rfl (by intro u hu; simp only [List.mem_cons, List.not_mem_nil, or_false] at hu; rcases hu with rfl | rfl <;> rfl) (by omega) hbs ?_; intro v3 w4 hown3 hg3 hm3; have HO3 := Lib.hid hown3; have HB4 := Lib.hid (below_grown HB.out hbs hg3 (fun g hg => (HO.out.lt g hg).1)); clear hown3 hg3 hm3)
          exact ⟨⟨q + 1, by go_num, by omega, Lib.hid (by rw [HT2.out]; exact HO3.out), HB4⟩, by simp only [intOf]; omega⟩
        · obtain rfl : q = C.length + 1 := by omega
          have hI : ¬ (C.length : Int) + 1 < (C.length : Int) + 1 := by omega
          have HFIN : Hid (wr.ownsRow w.heap.size 38 2 (.slice Ao (C.length + 1) co) (C.length + 1) (pfc (pcs 4294967295 0 C) b)) := Lib.hid (by
            have h := owns_base HO.out HB3.out.size
            rw [List.take_of_length_le (by rw [HPL.out]; exact Nat.le_refl _)] at h
            exact h)
          have HBF := Lib.hid (HB3.out.trans (HB.out.mono HB3.out.size))
          go_wp2
          go_ret
          exact ⟨_, rfl, C, HST.out, HFL.out C HST.out, HFIN.out, HBF.out⟩
end
end Go.Proofs.YtehpkpjgkmbngaaGreat

/-
  Arguments opened to cells with their weights: no program in sight.
-/
namespace Go.Proofs.YtehpkpjgkmbngaaGreat
open Go Go.RowKit Go.ChangeShapes Go.WideShapes Go.Deep

section
variable {H : Type} {enc : TypeId × Value → H} {P : Program} {w : World} {base : Nat} {spare : Nat → Bool} {held : Bool}
/-- All of a datum's weights are within the reach. -/
def InReach (P : Program) (t : TypeId) (d : DataW H) : Prop := ∀ m ∈ d.weights P t, m ≤ reachBytes
theorem mem_weightsAll {e : TypeId} {d : DataW H} : ∀ {ds : List (DataW H)}, d ∈ ds → ∀ n ∈ d.weights P e, n ∈ DataW.weightsAll P e ds
  | [], h, _, _ => by simp at h
  | x :: ds, h, n, hn => by
    rw [DataW.weightsAll, List.mem_append]
    rcases List.mem_cons.1 h with rfl | h
    · exact .inl hn
    · exact .inr (mem_weightsAll h n hn)
theorem sub_at2 {t : TypeId} {fs : Array Field} {n : Nat} {cs : List Value} {x : DataW H × List MemPlace} (ht : P.underlying t = some (.struct fs)) (h : DataW.trod enc P w base spare held n t cs = some x) (hw : InReach P t x.1) :
    cs.length = P.cellsOf t ∧ ∃ m, ∀ (j : Nat) (f : Field) (off : Nat) (ty : TypeId) (k : Nat), fs[j]? = some f → f.offset = off → f.type = ty → P.cellsOf ty = k → ∃ y, DataW.trod enc P w base spare held m ty ((cs.drop off).take k) = some y ∧ InReach P ty y.1 := by
  obtain ⟨xs, m, _, hx, hl, hlen, hf⟩ := DataW.trod_struct ht h
  refine ⟨hl, m, fun j f off ty k hj ho hty hk => ?_⟩
  have h1 := hf j f hj
  have hjl : j < xs.length := by rw [hlen]; exact (Array.getElem?_eq_some_iff.1 hj).1
  subst ho hty hk
  refine ⟨_, h1.trans (List.getElem?_eq_getElem hjl), fun q hq => hw q ?_⟩
  rw [hx]
  simp only [DataW.weights, ht]
  exact DataW.weights_mem_each (j := j) (t := f.type) (by simpa using congrArg (Option.map (·.type)) hj) (by simp [hjl]) q hq
theorem open_rd2 {α : Type} {encV : α → List Value} {Q : α → Prop} {k : Nat} (hk : ∀ x, (encV x).length = k) (hk0 : 0 < k) {t e : TypeId} {n : Nat} {cs : List Value} {x : DataW H × List MemPlace} (ht : P.underlying t = some (.slice e)) (hC : P.cellsOf e = k)
    (hel : ∀ n cs y, DataW.trod enc P w base spare held n e cs = some y → InReach P e y.1 → ∃ r, cs = encV r ∧ Q r) (h : DataW.trod enc P w base spare held n t cs = some x) (hw : InReach P t x.1) :
    ∃ (v : Value) (L : List α), cs = [v] ∧ Rd w w.heap.size k v L.length (L.flatMap encV) ∧ L.length ≤ maxLen ∧ (∀ r ∈ L, Q r) ∧ L.length * P.bytesOf e ≤ reachBytes := by
  rcases open_slice ht h with ⟨h0, _⟩ | ⟨a, len, cap, m, n', D, Pl, hcs, _, hl, hm, hmm, hx, hi⟩
  · exact ⟨_, [], h0, ⟨none, 0, rfl, by simp, by simp, fun h => absurd h (by simp)⟩, by simp, by simp, by simp⟩
  · have hlm : len ≤ m := by rw [hmm]; split <;> omega
    have hw1 : ∀ i, i < len → InReach P e (D i) := fun i hi' q hq => by
      refine hw q ?_
      rw [hx]
      simp only [DataW.weights, ht]
      refine List.mem_cons_of_mem _ (List.mem_append_left _ (mem_weightsAll (d := D i) ?_ q hq))
      exact List.mem_map.2 ⟨i, List.mem_range.2 hi', rfl⟩
    have hw2 : len * P.bytesOf e ≤ reachBytes := by
      have := hw ((((List.range len).map D).length + ((List.range (m - len)).map fun j => D (len + j)).length) * P.bytesOf e) (by rw [hx]; simp only [DataW.weights, ht]; exact List.mem_cons_self ..)
      refine Nat.le_trans (Nat.mul_le_mul_right _ ?_) this
      simp
    obtain ⟨L, hL, hq⟩ := list_told (Q := fun i r => w.cells? base (a.add (i * k)) k = some (encV r) ∧ Q r) len (fun i hi' => by
      obtain ⟨cs', hc, ht'⟩ := hi i (by omega)
      obtain ⟨r, hr, hQ⟩ := hel _ _ _ ht' (hw1 i hi')
      rw [hC] at hc
      exact ⟨r, by rw [hc, hr], hQ⟩)
    refine ⟨_, L, hcs, ⟨some a, cap, by rw [hL], by omega, flat_len encV k hk L, fun hpos => ?_⟩, by omega, fun r hr => ?_, by rw [hL]; exact hw2⟩
    · obtain ⟨b, off, sp⟩ := a
      have hz : ∃ u, w.cell? ⟨b, off, sp⟩ = some u := by
        obtain ⟨r, hr⟩ : ∃ r, L[0]? = some r := ⟨_, List.getElem?_eq_getElem hpos⟩
        obtain ⟨_, _, hat⟩ := World.cells?_some (hq 0 r hr).1
        have h1 := hat 0 hk0
        have h2 : (encV r)[0]? = some ((encV r)[0]'(by rw [hk]; exact hk0)) := List.getElem?_eq_getElem _
        rw [h2] at h1
        refine ⟨_, Eq.trans ?_ h1⟩
        simp [Addr.add]
      obtain ⟨u0, hu0⟩ := hz
      obtain rfl := Go.Proofs.cell_spot hu0
      refine ⟨b, off, rfl, ?_, fun j u hu => ?_⟩
      · rcases Nat.lt_or_ge b w.heap.size with h | h
        · exact h
        · have hn : w.heap[b]? = none := by simp [h]
          simp [World.cell?, hn] at hu0
      · obtain ⟨i, jj, r, hj, hjj, hr, hu'⟩ := flat_inv encV k hk L j u hu
        obtain ⟨_, _, hat⟩ := World.cells?_some (hq i r hr).1
        have h1 := hat jj hjj
        rw [hu'] at h1
        have e : (Addr.add ⟨b, off, none⟩ (i * k)).add jj = ⟨b, off + j, none⟩ := by
          rw [hj]; simp only [Addr.add]
          split <;> split <;> simp_all <;> omega
        rw [← e]; exact h1
    · obtain ⟨i, hi', he⟩ := List.getElem_of_mem hr
      exact (hq i r (by rw [← he]; exact List.getElem?_eq_getElem hi')).2
end

end Go.Proofs.YtehpkpjgkmbngaaGreat

/-
  The cells of prefix lists, community lists and slices of communities.
-/
namespace Go.Proofs.YtehpkpjgkmbngaaGreat
open Go Go.RowKit Go.ChangeShapes Go.WideShapes Go.Deep

section
variable {H : Type} {enc : TypeId × Value → H} {P : Program} {w : World} {base : Nat} {spare : Nat → Bool} {held : Bool}
theorem open_rd3 {α : Type} {encV : α → List Value} {Q : α → Prop} {k : Nat} (hk : ∀ x, (encV x).length = k) (hk0 : 0 < k) {t e : TypeId} {n : Nat} {cs : List Value} {x : DataW H × List MemPlace} (ht : P.underlying t = some (.slice e)) (hC : P.cellsOf e = k)
    (hel : ∀ n cs y, DataW.trod enc P w base spare held n e cs = some y → ∃ r, cs = encV r ∧ Q r) (h : DataW.trod enc P w base spare held n t cs = some x) :
    ∃ (v : Value) (L : List α), cs = [v] ∧ Rd w w.heap.size k v L.length (L.flatMap encV) ∧ L.length ≤ maxLen ∧ (∀ r ∈ L, Q r) := by
  rcases open_slice ht h with ⟨h0, _⟩ | ⟨a, len, cap, m, n', D, Pl, hcs, _, hl, hm, hmm, hx, hi⟩
  · exact ⟨_, [], h0, ⟨none, 0, rfl, by simp, by simp, fun h => absurd h (by simp)⟩, by simp, by simp⟩
  · have hlm : len ≤ m := by rw [hmm]; split <;> omega
    obtain ⟨L, hL, hq⟩ := list_told (Q := fun i r => w.cells? base (a.add (i * k)) k = some (encV r) ∧ Q r) len (fun i hi' => by
      obtain ⟨cs', hc, ht'⟩ := hi i (by omega)
      obtain ⟨r, hr, hQ⟩ := hel _ _ _ ht'
      rw [hC] at hc
      exact ⟨r, by rw [hc, hr], hQ⟩)
    refine ⟨_, L, hcs, ⟨some a, cap, by rw [hL], by omega, flat_len encV k hk L, fun hpos => ?_⟩, by omega, fun r hr => ?_⟩
    · obtain ⟨b, off, sp⟩ := a
      have hz : ∃ u, w.cell? ⟨b, off, sp⟩ = some u := by
        obtain ⟨r, hr⟩ : ∃ r, L[0]? = some r := ⟨_, List.getElem?_eq_getElem hpos⟩
        obtain ⟨_, _, hat⟩ := World.cells?_some (hq 0 r hr).1
        have h1 := hat 0 hk0
        have h2 : (encV r)[0]? = some ((encV r)[0]'(by rw [hk]; exact hk0)) := List.getElem?_eq_getElem _
        rw [h2] at h1
        refine ⟨_, Eq.trans ?_ h1⟩
        simp [Addr.add]
      obtain ⟨u0, hu0⟩ := hz
      obtain rfl := Go.Proofs.cell_spot hu0
      refine ⟨b, off, rfl, ?_, fun j u hu => ?_⟩
      · rcases Nat.lt_or_ge b w.heap.size with h | h
        · exact h
        · have hn : w.heap[b]? = none := by simp [h]
          simp [World.cell?, hn] at hu0
      · obtain ⟨i, jj, r, hj, hjj, hr, hu'⟩ := flat_inv encV k hk L j u hu
        obtain ⟨_, _, hat⟩ := World.cells?_some (hq i r hr).1
        have h1 := hat jj hjj
        rw [hu'] at h1
        have e : (Addr.add ⟨b, off, none⟩ (i * k)).add jj = ⟨b, off + j, none⟩ := by
          rw [hj]; simp only [Addr.add]
          split <;> split <;> simp_all <;> omega
        rw [← e]; exact h1
    · obtain ⟨i, hi', he⟩ := List.getElem_of_mem hr
      exact (hq i r (by rw [← he]; exact List.getElem?_eq_getElem hi')).2
end
/-- Communities in a slice. -/
structure CmV where
  v : Value
  L : List Int
def CmV.cell (s : CmV) : List Value := [s.v]
theorem cm_len (s : CmV) : s.cell.length = 1 := rfl
def cmvals (S : List CmV) : List Value := S.map (·.v)
theorem cmvals_flat : ∀ S : List CmV, S.flatMap CmV.cell = cmvals S
  | [] => rfl
  | s :: r => by
    show s.cell ++ r.flatMap CmV.cell = s.v :: cmvals r
    rw [cmvals_flat r]; rfl
/-- Slices of communities, in a world. -/
def CmAt (W : World) (B : Nat) (v : Value) (S : List CmV) : Prop := Rd W B 1 v S.length (cmvals S) ∧ ∀ x ∈ S, Rd W B 1 x.v x.L.length (u32c x.L) ∧ x.L.length ≤ 9223372036854775807
theorem CmAt.below {W W' : World} {B : Nat} {v : Value} {S : List CmV} (h : CmAt W B v S) (hb : Below B W W') : CmAt W' B v S := ⟨h.1.below hb, fun m hm => ⟨(h.2 m hm).1.below hb, (h.2 m hm).2⟩⟩
theorem CmAt.mono {W : World} {B B' : Nat} {v : Value} {S : List CmV} (h : CmAt W B v S) (hb : B ≤ B') : CmAt W B' v S := ⟨h.1.mono hb, fun m hm => ⟨(h.2 m hm).1.mono hb, (h.2 m hm).2⟩⟩
theorem u32c_flat : ∀ L : List Int, L.flatMap (fun x => [Value.int .u32 x]) = u32c L
  | [] => rfl
  | x :: r => by
    show [Value.int .u32 x] ++ r.flatMap _ = Value.int .u32 x :: u32c r
    rw [u32c_flat r]; rfl

section
variable {H : Type} {enc : TypeId × Value → H} {w : World} {base : Nat} {spare : Nat → Bool} {held : Bool}
theorem elem_u32x (n : Nat) (cs : List Value) (x : DataW H × List MemPlace) (h : DataW.trod enc Tryz.prog w base spare held n 35 cs = some x) : ∃ r : Int, cs = [Value.int .u32 r] := by
  obtain ⟨v0, e0, _⟩ := DataW.trod_int Tryz.underlying35 h
  exact ⟨v0, e0⟩
theorem open_comm (n : Nat) (cs : List Value) (x : DataW H × List MemPlace) (h : DataW.trod enc Tryz.prog w base spare held n 46 cs = some x) :
    ∃ (v : Value) (L : List Int), cs = [v] ∧ Rd w w.heap.size 1 v L.length (u32c L) ∧ L.length ≤ 9223372036854775807 := by
  obtain ⟨v, L, hv, hr, hl⟩ := open_rd (encV := fun x : Int => [Value.int .u32 x]) (fun _ => rfl) (by decide) Tryz.underlying46 (by kernel_rfl) elem_u32x h
  rw [u32c_flat] at hr
  exact ⟨v, L, hv, hr, by unfold maxLen at hl; omega⟩
theorem elem_cm (n : Nat) (cs : List Value) (x : DataW H × List MemPlace) (h : DataW.trod enc Tryz.prog w base spare held n 46 cs = some x) :
    ∃ s : CmV, cs = s.cell ∧ (Rd w w.heap.size 1 s.v s.L.length (u32c s.L) ∧ s.L.length ≤ 9223372036854775807) := by
  obtain ⟨v, L, hv, hr, hl⟩ := open_comm n cs x h
  exact ⟨⟨v, L⟩, hv, hr, hl⟩
theorem open_cms (n : Nat) (cs : List Value) (x : DataW H × List MemPlace) (h : DataW.trod enc Tryz.prog w base spare held n 28 cs = some x) :
    ∃ (v : Value) (S : List CmV), cs = [v] ∧ CmAt w w.heap.size v S ∧ S.length ≤ maxLen := by
  obtain ⟨v, L, hv, hr, hl, hq⟩ := open_rd3 (Q := fun s : CmV => Rd w w.heap.size 1 s.v s.L.length (u32c s.L) ∧ s.L.length ≤ 9223372036854775807) cm_len (by decide) Tryz.underlying28 (by kernel_rfl) elem_cm h
  rw [cmvals_flat] at hr
  exact ⟨v, L, hv, ⟨hr, hq⟩, hl⟩
set_option maxHeartbeats 1000000 in
theorem elem_mem (n : Nat) (cs : List Value) (x : DataW H × List MemPlace) (h : DataW.trod enc Tryz.prog w base spare held n 48 cs = some x) :
    ∃ m : MemV, cs = m.enc ∧ (Rd w w.heap.size 1 m.v m.L.length (u32c m.L) ∧ m.L.length ≤ 9223372036854775807) := by
  obtain ⟨l0, m0, s0⟩ := sub_at Tryz.underlying48 h
  rw [show Tryz.prog.cellsOf 48 = 2 from by kernel_rfl] at l0
  obtain ⟨c0, c1, rfl⟩ : ∃ c0 c1, cs = [c0, c1] := by
    match cs, l0 with
    | [c0, c1], _ => exact ⟨c0, c1, rfl⟩
  obtain ⟨_, g1⟩ := s0 0 _ 0 4 1 rfl rfl rfl (by kernel_rfl)
  replace g1 : DataW.trod enc Tryz.prog w base spare held m0 4 [c0] = some _ := g1
  obtain ⟨v0, e0, _⟩ := DataW.trod_bool Tryz.underlying4 g1
  obtain rfl := (List.cons.inj e0).1
  obtain ⟨_, g2⟩ := s0 1 _ 1 46 1 rfl rfl rfl (by kernel_rfl)
  replace g2 : DataW.trod enc Tryz.prog w base spare held m0 46 [c1] = some _ := g2
  obtain ⟨v, L, hv, hr, hl⟩ := open_comm _ _ _ g2
  obtain rfl := (List.cons.inj hv).1
  exact ⟨⟨v0, c1, L⟩, rfl, hr, hl⟩
set_option maxHeartbeats 1000000 in
theorem elem_ent (n : Nat) (cs : List Value) (x : DataW H × List MemPlace) (h : DataW.trod enc Tryz.prog w base spare held n 40 cs = some x) : ∃ r : EntV, cs = r.enc ∧ EntOk r := by
  obtain ⟨l0, m0, s0⟩ := sub_at Tryz.underlying40 h
  rw [show Tryz.prog.cellsOf 40 = 5 from by kernel_rfl] at l0
  obtain ⟨c0, c1, c2, c3, c4, rfl⟩ : ∃ c0 c1 c2 c3 c4, cs = [c0, c1, c2, c3, c4] := by
    match cs, l0 with
    | [c0, c1, c2, c3, c4], _ => exact ⟨c0, c1, c2, c3, c4, rfl⟩
  obtain ⟨_, g1⟩ := s0 0 _ 0 4 1 rfl rfl rfl (by kernel_rfl)
  replace g1 : DataW.trod enc Tryz.prog w base spare held m0 4 [c0] = some _ := g1
  obtain ⟨v0, e0, _⟩ := DataW.trod_bool Tryz.underlying4 g1
  obtain rfl := (List.cons.inj e0).1
  obtain ⟨_, g3⟩ := s0 1 _ 1 38 2 rfl rfl rfl (by kernel_rfl)
  replace g3 : DataW.trod enc Tryz.prog w base spare held m0 38 [c1, c2] = some _ := g3
  obtain ⟨l4, m4, s4⟩ := sub_at Tryz.underlying38 g3
  obtain ⟨_, g5⟩ := s4 0 _ 0 36 1 rfl rfl rfl (by kernel_rfl)
  replace g5 : DataW.trod enc Tryz.prog w base spare held m4 36 [c1] = some _ := g5
  obtain ⟨v1, e1, _, w1⟩ := DataW.trod_int Tryz.underlying36 g5
  have b1 := bounds_u32 w1
  obtain rfl := (List.cons.inj e1).1
  obtain ⟨_, g6⟩ := s4 1 _ 1 3 1 rfl rfl rfl (by kernel_rfl)
  replace g6 : DataW.trod enc Tryz.prog w base spare held m4 3 [c2] = some _ := g6
  obtain ⟨v2, e2, _⟩ := DataW.trod_int Tryz.underlying3 g6
  obtain rfl := (List.cons.inj e2).1
  obtain ⟨_, g7⟩ := s0 2 _ 3 3 1 rfl rfl rfl (by kernel_rfl)
  replace g7 : DataW.trod enc Tryz.prog w base spare held m0 3 [c3] = some _ := g7
  obtain ⟨v3, e3, _⟩ := DataW.trod_int Tryz.underlying3 g7
  obtain rfl := (List.cons.inj e3).1
  obtain ⟨_, g8⟩ := s0 3 _ 4 3 1 rfl rfl rfl (by kernel_rfl)
  replace g8 : DataW.trod enc Tryz.prog w base spare held m0 3 [c4] = some _ := g8
  obtain ⟨v4, e4, _⟩ := DataW.trod_int Tryz.underlying3 g8
  obtain rfl := (List.cons.inj e4).1
  exact ⟨⟨v0, v1, v2, v3, v4⟩, rfl, ⟨by show 0 ≤ v1; omega, by show v1 < 4294967296; omega⟩⟩
theorem elem_plist (n : Nat) (cs : List Value) (x : DataW H × List MemPlace) (h : DataW.trod enc Tryz.prog w base spare held n 24 cs = some x) :
    ∃ (nm : ByteArray) (v : Value) (L : List EntV), cs = [.string nm, v] ∧ Rd w w.heap.size 5 v L.length (ecells L) ∧ ∀ x ∈ L, EntOk x := by
  obtain ⟨l0, m0, s0⟩ := sub_at Tryz.underlying24 h
  rw [show Tryz.prog.cellsOf 24 = 2 from by kernel_rfl] at l0
  obtain ⟨c0, c1, rfl⟩ : ∃ c0 c1, cs = [c0, c1] := by
    match cs, l0 with
    | [c0, c1], _ => exact ⟨c0, c1, rfl⟩
  obtain ⟨_, g1⟩ := s0 0 _ 0 9 1 rfl rfl rfl (by kernel_rfl)
  replace g1 : DataW.trod enc Tryz.prog w base spare held m0 9 [c0] = some _ := g1
  obtain ⟨nm, e0, _⟩ := DataW.trod_string Tryz.underlying9 g1
  obtain rfl := (List.cons.inj e0).1
  obtain ⟨_, g2⟩ := s0 1 _ 1 22 1 rfl rfl rfl (by kernel_rfl)
  replace g2 : DataW.trod enc Tryz.prog w base spare held m0 22 [c1] = some _ := g2
  obtain ⟨v, L, hv, hr, _, hq⟩ := open_rd3 (Q := EntOk) ent_len (by decide) Tryz.underlying22 (by kernel_rfl) elem_ent g2
  obtain rfl := (List.cons.inj hv).1
  exact ⟨nm, c1, L, rfl, hr, hq⟩
theorem elem_clist (n : Nat) (cs : List Value) (x : DataW H × List MemPlace) (h : DataW.trod enc Tryz.prog w base spare held n 27 cs = some x) :
    ∃ (nm : ByteArray) (v : Value) (Ms : List MemV), cs = [.string nm, v] ∧ MsAt w w.heap.size v Ms := by
  obtain ⟨l0, m0, s0⟩ := sub_at Tryz.underlying27 h
  rw [show Tryz.prog.cellsOf 27 = 2 from by kernel_rfl] at l0
  obtain ⟨c0, c1, rfl⟩ : ∃ c0 c1, cs = [c0, c1] := by
    match cs, l0 with
    | [c0, c1], _ => exact ⟨c0, c1, rfl⟩
  obtain ⟨_, g1⟩ := s0 0 _ 0 9 1 rfl rfl rfl (by kernel_rfl)
  replace g1 : DataW.trod enc Tryz.prog w base spare held m0 9 [c0] = some _ := g1
  obtain ⟨nm, e0, _⟩ := DataW.trod_string Tryz.underlying9 g1
  obtain rfl := (List.cons.inj e0).1
  obtain ⟨_, g2⟩ := s0 1 _ 1 25 1 rfl rfl rfl (by kernel_rfl)
  replace g2 : DataW.trod enc Tryz.prog w base spare held m0 25 [c1] = some _ := g2
  obtain ⟨v, Ms, hv, hr, _, hq⟩ := open_rd3 (Q := fun m : MemV => Rd w w.heap.size 1 m.v m.L.length (u32c m.L) ∧ m.L.length ≤ 9223372036854775807) mem_len (by decide) Tryz.underlying25 (by kernel_rfl) elem_mem g2
  obtain rfl := (List.cons.inj hv).1
  exact ⟨nm, c1, Ms, rfl, hr, hq⟩
end
end Go.Proofs.YtehpkpjgkmbngaaGreat

/-
  An append of several elements tells whether its row lies where it lay; no program in sight.
-/
namespace Go.Proofs.YtehpkpjgkmbngaaGreat
open Go Go.RowKit

theorem wpList_pushM {P : Program} {ops : Array Oper} {rest : List Oper} {o : Oper} {a : Act} {Q : Exit → Act → World → Prop} (hgd : o.guard = none) (s x : Operand) (t : TypeId)
    (ho : o.op = .call { callee := .builtin .append, args := #[s, x], argTypes := #[t, t] })
    (e : TypeId) (i : TypeInfo) (z : Value) (size bytes : Nat) (ht : P.underlying t = some (.slice e)) (hi : P.info? e = some i) (hz : i.zero = some z)
    (hsize : i.size = size) (hby : i.bytes = bytes) (hzs : z.cells.size = size) (hsz : 0 < size) (hb64 : bytes ≤ 64) (m : Nat) (hm : 0 < m) (hm2 : m ≤ 1024)
    {w0 : World} {base n : Nat} {v : Value} {xs : List Value} (es : List Value) (hs : a.eval s = v) {g0 : Nat} (hx : a.eval x = .slice (some ⟨g0, 0, none⟩) m m) (hg0 : g0 = w0.heap.size)
    (hown : w0.ownsRow base e size v n xs) (hes : es.length = m * size) (h1 : ∀ u ∈ es, u.oneCell' = true) (hn : n ≤ 1099511627776) (hbase : base ≤ w0.heap.size)
    (h : ∀ v' w', w'.ownsRow base e size v' (n + m) (xs ++ es) → w0.grownBy w' v.ownBlock → Moved v v' w0.heap.size → wpList P ops Q rest (a.put o.dst v') w') : wpList P ops Q (o :: rest) a (w0.alloc (.cells es.toArray e)) := by
  subst hg0
  have hb2 : (n + m) * bytes ≤ 140737488355328 :=
    calc (n + m) * bytes ≤ (1099511627776 + 1024) * 64 := Nat.mul_le_mul (by omega) hb64
      _ ≤ 140737488355328 := by decide
  have hownA := hown.alloc (.cells es.toArray e)
  have hgA : w0.grownBy (w0.alloc (.cells es.toArray e)) none := World.grownBy_alloc w0 _ none
  have hnew := cells_new w0 es e
  rcases hown.2 with ⟨rfl, rfl⟩ | ⟨g, cap, cur, rfl, hbg, hg, hnc, hcm, hcs, htake⟩
  · obtain rfl : xs = [] := List.eq_nil_of_length_eq_zero (by have := hown.1; omega)
    refine wpList_append_grows _ hgd s x t ho e i z size bytes ht hi hz hsize hby hzs hsz none 0 0 [] hs (fun _ => ⟨rfl, rfl⟩) (by simp) (fun b hb => by cases hb) ⟨w0.heap.size, 0, none⟩ m m es hx hes hnew h1 (by omega) (by unfold maxLen; omega) hb2 ?_
    intro v' w' h2 h3
    refine h v' w' (owns_base h2 (by simp; omega)) (grown_none (hgA.trans h3) _) (.inr fun g hg => ?_)
    have := (h2.lt g hg).1
    simp at this; omega
  · by_cases hroom : n + m ≤ cap
    · obtain ⟨w', hr, h2, h3⟩ := run_append_fits (P := P) _ base t o.type e i size ht hi hsize g n cap xs hownA ⟨w0.heap.size, 0, none⟩ m m es hes hnew h1 hroom
      refine wpList_plain hgd fun K hK => ?_
      unfold Oper.wp execOp
      simp only [ho, resolve, invoke, builtin, Sem.run_bind, Sem.run_pure, Result.andThen_ok, List.map_toArray, List.map_cons, List.map_nil, hs, hx, hr]
      exact hK _ _ (h _ w' h2 ((grown_none hgA _).trans h3) (.inl rfl))
    · refine wpList_append_grows _ hgd s x t ho e i z size bytes ht hi hz hsize hby hzs hsz (some ⟨g, 0, none⟩) n cap xs hs (fun hh => by cases hh) hown.1 (fun b hb j u hu => ?_) ⟨w0.heap.size, 0, none⟩ m m es hx hes hnew h1 (by omega) (by unfold maxLen; omega) hb2 ?_
      · injection hb with hb
        subst hb
        exact hownA.cells rfl j u hu
      · intro v' w' h2 h3
        refine h v' w' (owns_base h2 (by simp; omega)) (grown_none (hgA.trans h3) _) (.inr fun g hg => ?_)
        have := (h2.lt g hg).1
        simp at this; omega
/-- An append of several elements, as one operation. -/
theorem oper_pushM {P : Program} {o : Oper} {a : Act} {K : Act → World → Prop} {Q : Exit → Act → World → Prop} (hgd : o.guard = none) (s x : Operand) (t : TypeId)
    (ho : o.op = .call { callee := .builtin .append, args := #[s, x], argTypes := #[t, t] })
    (e : TypeId) (i : TypeInfo) (z : Value) (size bytes : Nat) (ht : P.underlying t = some (.slice e)) (hi : P.info? e = some i) (hz : i.zero = some z)
    (hsize : i.size = size) (hby : i.bytes = bytes) (hzs : z.cells.size = size) (hsz : 0 < size) (hb64 : bytes ≤ 64) (m : Nat) (hm : 0 < m) (hm2 : m ≤ 1024)
    {w0 : World} {base n : Nat} {v : Value} {xs : List Value} (es : List Value) (hs : a.eval s = v) {g0 : Nat} (hx : a.eval x = .slice (some ⟨g0, 0, none⟩) m m) (hg0 : g0 = w0.heap.size)
    (hown : w0.ownsRow base e size v n xs) (hes : es.length = m * size) (h1 : ∀ u ∈ es, u.oneCell' = true) (hn : n ≤ 1099511627776) (hbase : base ≤ w0.heap.size)
    (h : ∀ v' w', w'.ownsRow base e size v' (n + m) (xs ++ es) → w0.grownBy w' v.ownBlock → Moved v v' w0.heap.size → K (a.put o.dst v') w') : o.wp P a (w0.alloc (.cells es.toArray e)) K Q := by
  subst hg0
  have hb2 : (n + m) * bytes ≤ 140737488355328 :=
    calc (n + m) * bytes ≤ (1099511627776 + 1024) * 64 := Nat.mul_le_mul (by omega) hb64
      _ ≤ 140737488355328 := by decide
  have hownA := hown.alloc (.cells es.toArray e)
  have hgA : w0.grownBy (w0.alloc (.cells es.toArray e)) none := World.grownBy_alloc w0 _ none
  have hnew := cells_new w0 es e
  have hw : Region.wanted o (yielded #[] a.tmps) = true := by simp [Region.wanted, hgd]
  rcases hown.2 with ⟨rfl, rfl⟩ | ⟨g, cap, cur, rfl, hbg, hg, hnc, hcm, hcs, htake⟩
  · obtain rfl : xs = [] := List.eq_nil_of_length_eq_zero (by have := hown.1; omega)
    have H := step_append_grows (P := P) (ops := #[]) (o := o) (a := a) (w := w0.alloc (.cells es.toArray e)) (K := K) (Q := Q) (E := False) hgd s x t ho e i z size bytes ht hi hz hsize hby hzs hsz none 0 0 [] hs (fun _ => ⟨rfl, rfl⟩) (by simp) (fun b hb => by cases hb) ⟨w0.heap.size, 0, none⟩ m m es hx hes hnew h1 (by omega) (by unfold maxLen; omega) hb2 (fun v' w' h2 h3 => by
      refine h v' w' (owns_base h2 (by simp; omega)) (grown_none (hgA.trans h3) _) (.inr fun g hg => ?_)
      have := (h2.lt g hg).1
      simp at this; omega)
    rw [if_pos hw] at H
    exact H
  · by_cases hroom : n + m ≤ cap
    · obtain ⟨w', hr, h2, h3⟩ := run_append_fits (P := P) _ base t o.type e i size ht hi hsize g n cap xs hownA ⟨w0.heap.size, 0, none⟩ m m es hes hnew h1 hroom
      unfold Oper.wp execOp
      simp only [ho, resolve, invoke, builtin, Sem.run_bind, Sem.run_pure, Result.andThen_ok, List.map_toArray, List.map_cons, List.map_nil, hs, hx, hr]
      exact h _ w' h2 ((grown_none hgA _).trans h3) (.inl rfl)
    · have H := step_append_grows (P := P) (ops := #[]) (o := o) (a := a) (w := w0.alloc (.cells es.toArray e)) (K := K) (Q := Q) (E := False) hgd s x t ho e i z size bytes ht hi hz hsize hby hzs hsz (some ⟨g, 0, none⟩) n cap xs hs (fun hh => by cases hh) hown.1 (fun b hb j u hu => by
        injection hb with hb
        subst hb
        exact hownA.cells rfl j u hu) ⟨w0.heap.size, 0, none⟩ m m es hx hes hnew h1 (by omega) (by unfold maxLen; omega) hb2 (fun v' w' h2 h3 => by
        refine h v' w' (owns_base h2 (by simp; omega)) (grown_none (hgA.trans h3) _) (.inr fun g hg => ?_)
        have := (h2.lt g hg).1
        simp at this; omega)
      rw [if_pos hw] at H
      exact H
/-- An append of a whole row, nil or laid. -/
theorem wpList_appendA {P : Program} {w : World} {ops : Array Oper} {rest : List Oper} {o : Oper} {a : Act} {Q : Exit → Act → World → Prop} (hgd : o.guard = none) (s x : Operand) (t : TypeId)
    (ho : o.op = .call { callee := .builtin .append, args := #[s, x], argTypes := #[t, t] })
    (base : Nat) (e : TypeId) (i : TypeInfo) (z : Value) (size bytes : Nat) (ht : P.underlying t = some (.slice e)) (hi : P.info? e = some i) (hz : i.zero = some z)
    (hsize : i.size = size) (hby : i.bytes = bytes) (hzs : z.cells.size = size) (hsz : 0 < size)
    (v : Value) (n : Nat) (xs : List Value) (hs : a.eval s = v) (hown : w.ownsRow base e size v n xs) {base' m : Nat} {u : Value} {ys : List Value} (hx : a.eval x = u) (hsrc : w.ownsRow base' e size u m ys)
    (h1 : ∀ u ∈ ys, u.oneCell' = true) (h63 : n + m ≤ maxLen) (hbytes : (n + m) * bytes ≤ 140737488355328) (hbase : base ≤ w.heap.size)
    (h : ∀ v' w', w'.ownsRow base e size v' (n + m) (xs ++ ys) → w.grownBy w' v.ownBlock → wpList P ops Q rest (a.put o.dst v') w') : wpList P ops Q (o :: rest) a w := by
  rcases hsrc.2 with ⟨rfl, rfl⟩ | ⟨g, cap, cur, rfl, _⟩
  · obtain rfl : ys = [] := List.eq_nil_of_length_eq_zero (by have := hsrc.1; omega)
    refine wpList_append_own_none hgd s x t ho base e i size ht hi v n xs hs hown hx (h v w ?_ (World.grownBy.refl w _))
    rw [List.append_nil, Nat.add_zero]; exact hown
  · exact wpList_append_own _ hgd s x t ho base e i z size bytes ht hi hz hsize hby hzs hsz v n xs hs hown ⟨g, 0, none⟩ m cap ys hx hsrc.1 (hsrc.cells rfl) h1 h63 hbytes hbase fun v' w' a1 a2 _ => h v' w' a1 a2
end Go.Proofs.YtehpkpjgkmbngaaGreat

/-
  The linter's small example: awake.
-/
namespace Go.Proofs.YtehpkpjgkmbngaaGreat
open Go Go.RowKit Go.ChangeMaps Go.MapKept Go.Maps Go.Lib Go.Sort

theorem zF_no {F : Fun} (h : F ≠ fun _ => false) : zF F = false := by
  cases hz : zF F with
  | false => rfl
  | true => exact absurd (funext ((zF_iff F).1 hz)) h
theorem ln_zeros : zerosP lnL 3 = [2] := by
  rw [zerosP_succ, zerosP_succ, zerosP_succ, zF_no ln_dec0_ne, zF_no ln_dec1_ne, (zF_iff _).2 (fun s => by rw [ln_dec2_eq])]
  rfl
theorem zeros_nil : zerosP [] 0 = [] := rfl
def lnMs (a b c : Value) : List MemV := [⟨false, a, [1, 2]⟩, ⟨false, b, [1]⟩, ⟨false, c, [1, 2, 3]⟩]
theorem ln_mem (a b c : Value) : plL (memP (lnMs a b c)) 3 = [2] := by
  rw [plL_succ, plL_succ, plL_succ]
  rw [show memP (lnMs a b c) 0 = false from rfl, show memP (lnMs a b c) 1 = false from rfl, show memP (lnMs a b c) 2 = true from rfl]
  rfl
theorem own_one {W : World} {B : Nat} {v : Value} {n : Nat} (h : W.ownsRow B 3 1 v [n].length (ncl [n])) : ∃ g c, v = .slice (some ⟨g, 0, none⟩) 1 c ∧ W.cell? ⟨g, 0, none⟩ = some (.int .i64 n) ∧ g < W.heap.size := by
  obtain ⟨A, c, rfl, hA⟩ := owns_form h
  obtain ⟨g, rfl⟩ := hA (by show 0 < 1; omega)
  refine ⟨g, c, rfl, ?_, (h.lt g rfl).2⟩
  have := h.cellAt 0 (by show 0 < 1 * 1; omega)
  simpa [ncl] using this
section
set_option maxRecDepth 100000
set_option maxHeartbeats 4000000
theorem lawAwake30_any (w : World) : Calls Tryz.prog 5 #[] w fun e w' => e = .returned (.bool true) ∧ Below w.heap.size w w' := by
  have HB1 := Lib.hid (below1 w (.cells #[.int .u32 0, .int .u32 65535] 78))
  have HS1 := Lib.hid (blk1 w (.cells #[.int .u32 0, .int .u32 65535] 78))
  go_enter Tryz.func5, Tryz.ntmps5
  go_upto_region 2 with fail
  generalize w.alloc (.cells #[.int .u32 0, .int .u32 65535] 78) = w1 at *
  have s0 := cell_of_row _ _ 0 _ _ (0, 0) HS1.out
  have s1 := cell_of_row _ _ 1 _ _ (0, 0) HS1.out
  simp only [List.getElem?_toArray, List.getElem?_cons_zero, List.getElem?_cons_succ] at s0 s1
  have HB2 := Lib.hid (HB1.out.trans ((below1 w1 (.cells #[.bool true, .int .i64 6, .int .u32 0, .int .i64 0, .int .u32 0, .int .i64 0, .int .u32 0, .int .u32 65535, .int .u32 0, .int .u32 65535, .bool false, .int .i64 (-1), .int .u32 0, .int .i64 0, .int .u32 0, .int .i64 0, .int .u32 0, .int .u32 65535, .int .u32 0, .int .u32 65535, .bool true, .int .i64 17, .int .u32 0, .int .i64 0, .int .u32 0, .int .i64 0, .int .u32 0, .int .u32 65535, .int .u32 0, .int .u32 65535] 80)).mono HB1.out.size))
  have HLR := Lib.hid (lintRules_any (w1.alloc (.cells #[.bool true, .int .i64 6, .int .u32 0, .int .i64 0, .int .u32 0, .int .i64 0, .int .u32 0, .int .u32 65535, .int .u32 0, .int .u32 65535, .bool false, .int .i64 (-1), .int .u32 0, .int .i64 0, .int .u32 0, .int .i64 0, .int .u32 0, .int .u32 65535, .int .u32 0, .int .u32 65535, .bool true, .int .i64 17, .int .u32 0, .int .i64 0, .int .u32 0, .int .i64 0, .int .u32 0, .int .u32 65535, .int .u32 0, .int .u32 65535] 80)) ⟨#[]⟩ lnL (.slice (some ⟨w1.heap.size, 0, none⟩) 3 3) (Rd.of_blk (k := 10) (n := 3) (c := 3) (blk1 w1 (.cells #[.bool true, .int .i64 6, .int .u32 0, .int .i64 0, .int .u32 0, .int .i64 0, .int .u32 0, .int .u32 65535, .int .u32 0, .int .u32 65535, .bool false, .int .i64 (-1), .int .u32 0, .int .i64 0, .int .u32 0, .int .i64 0, .int .u32 0, .int .u32 65535, .int .u32 0, .int .u32 65535, .bool true, .int .i64 17, .int .u32 0, .int .i64 0, .int .u32 0, .int .i64 0, .int .u32 0, .int .u32 65535, .int .u32 0, .int .u32 65535] 80)) (Nat.le_refl _) rfl) ln_e 16848 ln_filt (by show 3 * (6080 + 7 * 16848) ≤ 4194304; omega))
  go_upto_region 3 with ((with_reducible refine HLR.out.mono ?_); rintro e w2 ⟨v2, rfl, ho2, hb2⟩; rw [show zerosP lnL lnL.length = [2] from ln_zeros] at ho2; obtain ⟨g2, c2, rfl, hc2, hg2⟩ := own_one ho2; have HC2 := Lib.hid (And.intro hc2 hg2); have HB3 := Lib.hid (HB2.out.trans (hb2.mono HB2.out.size)); clear ho2 hb2 hc2 hg2)
  clear s0 s1 HLR HB1 HS1 HB2
  have hb3 := below3 w2 (.cells #[.int .u32 1, .int .u32 2] 35) (.cells #[.int .u32 1] 35) (.cells #[.int .u32 1, .int .u32 2, .int .u32 3] 35)
  obtain ⟨u0, u1, u2⟩ := blk3 w2 (.cells #[.int .u32 1, .int .u32 2] 35) (.cells #[.int .u32 1] 35) (.cells #[.int .u32 1, .int .u32 2, .int .u32 3] 35)
  have hs3 : (((w2.alloc (.cells #[.int .u32 1, .int .u32 2] 35)).alloc (.cells #[.int .u32 1] 35)).alloc (.cells #[.int .u32 1, .int .u32 2, .int .u32 3] 35)).heap.size = w2.heap.size + 1 + 1 + 1 := by simp
  have hb4 := below1 (((w2.alloc (.cells #[.int .u32 1, .int .u32 2] 35)).alloc (.cells #[.int .u32 1] 35)).alloc (.cells #[.int .u32 1, .int .u32 2, .int .u32 3] 35)) (.cells #[.bool false, (.slice (some ⟨w2.heap.size, 0, none⟩) 2 2), .bool false, (.slice (some ⟨w2.heap.size + 1, 0, none⟩) 1 1), .bool false, (.slice (some ⟨w2.heap.size + 1 + 1, 0, none⟩) 3 3)] 48)
  have km := blk1 (((w2.alloc (.cells #[.int .u32 1, .int .u32 2] 35)).alloc (.cells #[.int .u32 1] 35)).alloc (.cells #[.int .u32 1, .int .u32 2, .int .u32 3] 35)) (.cells #[.bool false, (.slice (some ⟨w2.heap.size, 0, none⟩) 2 2), .bool false, (.slice (some ⟨w2.heap.size + 1, 0, none⟩) 1 1), .bool false, (.slice (some ⟨w2.heap.size + 1 + 1, 0, none⟩) 3 3)] 48)
  rw [hs3] at km
  have hb5 : Below w2.heap.size w2 ((((w2.alloc (.cells #[.int .u32 1, .int .u32 2] 35)).alloc (.cells #[.int .u32 1] 35)).alloc (.cells #[.int .u32 1, .int .u32 2, .int .u32 3] 35)).alloc (.cells #[.bool false, (.slice (some ⟨w2.heap.size, 0, none⟩) 2 2), .bool false, (.slice (some ⟨w2.heap.size + 1, 0, none⟩) 1 1), .bool false, (.slice (some ⟨w2.heap.size + 1 + 1, 0, none⟩) 3 3)] 48)) := hb3.trans (hb4.mono hb3.size)
  have hM : MsAt ((((w2.alloc (.cells #[.int .u32 1, .int .u32 2] 35)).alloc (.cells #[.int .u32 1] 35)).alloc (.cells #[.int .u32 1, .int .u32 2, .int .u32 3] 35)).alloc (.cells #[.bool false, (.slice (some ⟨w2.heap.size, 0, none⟩) 2 2), .bool false, (.slice (some ⟨w2.heap.size + 1, 0, none⟩) 1 1), .bool false, (.slice (some ⟨w2.heap.size + 1 + 1, 0, none⟩) 3 3)] 48)) ((((w2.alloc (.cells #[.int .u32 1, .int .u32 2] 35)).alloc (.cells #[.int .u32 1] 35)).alloc (.cells #[.int .u32 1, .int .u32 2, .int .u32 3] 35)).alloc (.cells #[.bool false, (.slice (some ⟨w2.heap.size, 0, none⟩) 2 2), .bool false, (.slice (some ⟨w2.heap.size + 1, 0, none⟩) 1 1), .bool false, (.slice (some ⟨w2.heap.size + 1 + 1, 0, none⟩) 3 3)] 48)).heap.size (.slice (some ⟨w2.heap.size + 1 + 1 + 1, 0, none⟩) 3 3) (lnMs (.slice (some ⟨w2.heap.size, 0, none⟩) 2 2) (.slice (some ⟨w2.heap.size + 1, 0, none⟩) 1 1) (.slice (some ⟨w2.heap.size + 1 + 1, 0, none⟩) 3 3)) := by
    refine ⟨Rd.of_blk (k := 2) (n := 3) (c := 3) km (Nat.le_refl _) rfl, fun m hm => ?_⟩
    simp only [lnMs, List.mem_cons, List.not_mem_nil, or_false] at hm
    rcases hm with rfl | rfl | rfl
    · exact ⟨Rd.of_blk (k := 1) (n := 2) (c := 2) (blk_below hb4 u0) (Nat.le_refl _) rfl, by show 2 ≤ _; omega⟩
    · exact ⟨Rd.of_blk (k := 1) (n := 1) (c := 1) (blk_below hb4 u1) (Nat.le_refl _) rfl, by show 1 ≤ _; omega⟩
    · exact ⟨Rd.of_blk (k := 1) (n := 3) (c := 3) (blk_below hb4 u2) (Nat.le_refl _) rfl, by show 3 ≤ _; omega⟩
  have HMB := Lib.hid (members_any ((((w2.alloc (.cells #[.int .u32 1, .int .u32 2] 35)).alloc (.cells #[.int .u32 1] 35)).alloc (.cells #[.int .u32 1, .int .u32 2, .int .u32 3] 35)).alloc (.cells #[.bool false, (.slice (some ⟨w2.heap.size, 0, none⟩) 2 2), .bool false, (.slice (some ⟨w2.heap.size + 1, 0, none⟩) 1 1), .bool false, (.slice (some ⟨w2.heap.size + 1 + 1, 0, none⟩) 3 3)] 48)) ⟨#[]⟩ _ _ hM (by show 3 ≤ _; omega))
  have HB5 := Lib.hid (HB3.out.trans (hb5.mono HB3.out.size))
  have HC5 := Lib.hid ((hb5.cell (p := ⟨g2, 0, none⟩) HC2.out.2).trans HC2.out.1)
  have HG5 : Hid (g2 < ((((w2.alloc (.cells #[.int .u32 1, .int .u32 2] 35)).alloc (.cells #[.int .u32 1] 35)).alloc (.cells #[.int .u32 1, .int .u32 2, .int .u32 3] 35)).alloc (.cells #[.bool false, (.slice (some ⟨w2.heap.size, 0, none⟩) 2 2), .bool false, (.slice (some ⟨w2.heap.size + 1, 0, none⟩) 1 1), .bool false, (.slice (some ⟨w2.heap.size + 1 + 1, 0, none⟩) 3 3)] 48)).heap.size) := Lib.hid (Nat.lt_of_lt_of_le HC2.out.2 hb5.size)
  clear hb3 u0 u1 u2 hs3 hb4 km hb5 hM HB3 HC2
  go_upto_region 4 with ((with_reducible refine HMB.out.mono ?_); rintro e w6 ⟨v6, rfl, ho6, hb6⟩; rw [show plL (memP (lnMs (.slice (some ⟨w2.heap.size, 0, none⟩) 2 2) (.slice (some ⟨w2.heap.size + 1, 0, none⟩) 1 1) (.slice (some ⟨w2.heap.size + 1 + 1, 0, none⟩) 3 3))) (lnMs (.slice (some ⟨w2.heap.size, 0, none⟩) 2 2) (.slice (some ⟨w2.heap.size + 1, 0, none⟩) 1 1) (.slice (some ⟨w2.heap.size + 1 + 1, 0, none⟩) 3 3)).length = [2] from ln_mem _ _ _] at ho6; obtain ⟨g6, c6, rfl, hc6, _⟩ := own_one ho6; have HC6 := Lib.hid hc6; have HC7 := Lib.hid ((hb6.cell (p := ⟨g2, 0, none⟩) HG5.out).trans HC5.out); have HB6 := Lib.hid (HB5.out.trans (hb6.mono HB5.out.size)); clear ho6 hb6 hc6)
  clear HMB HB5 HC5 HG5
  have c6' : w6.cell? ⟨g6, 0, none⟩ = some (.int .i64 2) := HC6.out
  have c7' : w6.cell? ⟨g2, 0, none⟩ = some (.int .i64 2) := HC7.out
  go_wp2
  go_ret
  exact ⟨rfl, HB6.out⟩
end
end Go.Proofs.YtehpkpjgkmbngaaGreat
