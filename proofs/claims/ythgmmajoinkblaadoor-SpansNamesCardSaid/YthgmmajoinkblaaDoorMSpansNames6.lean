/-
  Joined texts: SpMath3, Sp3, SpMath4, Sp6.
-/
import Derived.Test.YthgmmajoinkblaaDoorMSpansNames5
import Derived.Test.YthgmmajoinkblaaDoorMSpansNames4
import Derived.Deep.DeepCutAuto
import Derived.StillTailTactics
import Derived.Test.YthgmmajoinkblaaDoorShelf2
/-
  Sets of numbers as spans: the merging of a sorted list; what is in both; what is in none. No program in sight.
-/
namespace Go.Proofs.YthgmmajoinkblaaDoor

theorem hasB_nil (x : Int) : hasB [] x = false := rfl
theorem hasB_take_succ {L : List SpanV} {j : Nat} {s : SpanV} (h : L[j]? = some s) (x : Int) : hasB (L.take (j + 1)) x = (hasB (L.take j) x || s.inB x) := by
  rw [List.take_add_one, h, hasB_append]
  show _ = (_ || s.inB x)
  congr 1
  simp [hasB]
/-- One step of the merging. -/
def mstep (O : List SpanV) (s : SpanV) : List SpanV :=
  match O.getLast? with
  | none => [s]
  | some t => if s.lo ≤ t.hi + 1 then O.dropLast ++ [t.reach s] else O ++ [s]
theorem mstep_nil (s : SpanV) : mstep [] s = [s] := rfl
theorem mstep_in {A : List SpanV} {t s : SpanV} (h : s.lo ≤ t.hi + 1) : mstep (A ++ [t]) s = A ++ [t.reach s] := by
  simp [mstep, h]
theorem mstep_new {A : List SpanV} {t s : SpanV} (h : ¬ s.lo ≤ t.hi + 1) : mstep (A ++ [t]) s = A ++ [t] ++ [s] := by
  simp [mstep, h]
def mfold (L : List SpanV) : List SpanV := L.foldl mstep []
theorem mfold_succ {L : List SpanV} {j : Nat} {s : SpanV} (h : L[j]? = some s) : mfold (L.take (j + 1)) = mstep (mfold (L.take j)) s := by
  rw [List.take_add_one, h]
  simp [mfold, List.foldl_append]
theorem snoc_cases {α : Type} (O : List α) : O = [] ∨ ∃ A t, O = A ++ [t] := by
  rcases List.eq_nil_or_concat O with h | ⟨A, t, h⟩
  · exact .inl h
  · exact .inr ⟨A, t, by simpa using h⟩
theorem mfold_ok {L : List SpanV} (hs : L.Pairwise (fun x y => x.lo ≤ y.lo)) (hv : ∀ s ∈ L, s.lo ≤ s.hi) :
    ∀ j, j ≤ L.length → NF (mfold (L.take j)) ∧ (∀ x, hasB (mfold (L.take j)) x = hasB (L.take j) x) ∧ ∀ t ∈ mfold (L.take j), ∀ s ∈ L.drop j, t.lo ≤ s.lo := by
  intro j
  induction j with
  | zero => intro _; exact ⟨trivial, fun x => rfl, fun t ht => by simp [mfold] at ht⟩
  | succ j ih =>
    intro hj
    obtain ⟨h1, h2, h3⟩ := ih (by omega)
    obtain ⟨s, hsj⟩ : ∃ s, L[j]? = some s := ⟨_, List.getElem?_eq_getElem (by omega)⟩
    have hsm : s ∈ L := List.mem_of_getElem? hsj
    have hd : L.drop j = s :: L.drop (j + 1) := by
      obtain ⟨hj', e⟩ := List.getElem?_eq_some_iff.1 hsj
      rw [List.drop_eq_getElem_cons hj', e]
    have hsrest : ∀ u ∈ L.drop (j + 1), s.lo ≤ u.lo := by
      have := hs.sublist (List.drop_sublist j L)
      rw [hd] at this
      exact (List.pairwise_cons.1 this).1
    have h3' : ∀ t ∈ mfold (L.take j), t.lo ≤ s.lo := fun t ht => h3 t ht s (by rw [hd]; exact List.mem_cons_self ..)
    have h3'' : ∀ t ∈ mfold (L.take j), ∀ u ∈ L.drop (j + 1), t.lo ≤ u.lo := fun t ht u hu => h3 t ht u (by rw [hd]; exact List.mem_cons_of_mem _ hu)
    rw [mfold_succ hsj]
    have hmem : ∀ x, hasB (L.take (j + 1)) x = (hasB (mfold (L.take j)) x || s.inB x) := fun x => by rw [hasB_take_succ hsj, h2 x]
    generalize hO : mfold (L.take j) = O at *
    rcases snoc_cases O with rfl | ⟨A, t, rfl⟩
    · rw [mstep_nil]
      refine ⟨⟨hv s hsm, fun t ht => by simp at ht, trivial⟩, fun x => by rw [hmem, hasB_one, hasB_nil, Bool.false_or], fun t ht u hu => ?_⟩
      obtain rfl := List.mem_singleton.1 ht
      exact hsrest u hu
    · have htl : t.lo ≤ s.lo := h3' t (List.mem_append_right _ (List.mem_singleton.2 rfl))
      by_cases hm : s.lo ≤ t.hi + 1
      · rw [mstep_in hm]
        obtain ⟨k1, k2⟩ := merge_in h1 (hv s hsm) htl hm
        refine ⟨k1, fun x => by rw [k2, hmem], fun u hu v hv' => ?_⟩
        rcases List.mem_append.1 hu with hu | hu
        · exact h3'' u (List.mem_append_left _ hu) v hv'
        · obtain rfl := List.mem_singleton.1 hu
          exact h3'' t (List.mem_append_right _ (List.mem_singleton.2 rfl)) v hv'
      · rw [mstep_new hm]
        refine ⟨merge_new h1 (hv s hsm) (by omega), fun x => by rw [hasB_append, hasB_one, hmem], fun u hu v hv' => ?_⟩
        rcases List.mem_append.1 hu with hu | hu
        · exact h3'' u hu v hv'
        · obtain rfl := List.mem_singleton.1 hu
          exact hsrest v hv'
/-- The form of a list: what the program's three steps make is the list in normal form with the same members. -/
def okS (s : SpanV) : Bool := decide (s.lo ≤ s.hi)
theorem hasB_filter (L : List SpanV) (x : Int) : hasB (L.filter okS) x = hasB L x := by
  rw [Bool.eq_iff_iff, hasB_iff, hasB_iff]
  constructor
  · rintro ⟨s, hs, h1⟩; exact ⟨s, (List.mem_filter.1 hs).1, h1⟩
  · rintro ⟨s, hs, h1, h2⟩; exact ⟨s, List.mem_filter.2 ⟨hs, by simp [okS]; omega⟩, h1, h2⟩
noncomputable def formOf (L : List SpanV) : List SpanV := theSet (hasB L)
theorem formOf_eq {L L' : List SpanV} (hp : L'.Perm (L.filter okS)) (hs : L'.Pairwise (fun x y => x.lo ≤ y.lo)) :
    formOf L = mfold L' ∧ NF (mfold L') ∧ ∀ x, hasB (mfold L') x = hasB L x := by
  have hv : ∀ s ∈ L', s.lo ≤ s.hi := fun s h => by
    have := (List.mem_filter.1 (hp.mem_iff.1 h)).2
    simpa [okS] using this
  obtain ⟨h1, h2, _⟩ := mfold_ok hs hv L'.length (Nat.le_refl _)
  rw [List.take_length] at h1 h2
  have h3 : ∀ x, hasB (mfold L') x = hasB L x := fun x => by rw [h2, hasB_perm hp, hasB_filter]
  exact ⟨theSet_eq h1 h3, h1, h3⟩
theorem formOf_ok (L : List SpanV) : NF (formOf L) ∧ ∀ x, hasB (formOf L) x = hasB L x := by
  have hp : ((L.filter okS).mergeSort (fun x y => decide (x.lo ≤ y.lo))).Perm (L.filter okS) := List.mergeSort_perm _ _
  have hs : ((L.filter okS).mergeSort (fun x y => decide (x.lo ≤ y.lo))).Pairwise (fun x y => x.lo ≤ y.lo) := by
    have := List.pairwise_mergeSort (le := fun (x y : SpanV) => decide (x.lo ≤ y.lo)) (fun a b c h1 h2 => by simp at *; omega) (fun a b => by simp; omega) (L.filter okS)
    exact this.imp (fun h => by simpa using h)
  obtain ⟨h1, h2, h3⟩ := formOf_eq hp hs
  rw [h1]
  exact ⟨h2, h3⟩
theorem theSet_form {P : Int → Bool} {L : List SpanV} (h : ∀ x, hasB L x = P x) : theSet P = formOf L := by
  obtain ⟨h1, h2⟩ := formOf_ok L
  exact theSet_eq h1 (fun x => by rw [h2, h])
theorem mfold_len (L : List SpanV) : ∀ j, (mfold (L.take j)).length ≤ j := by
  intro j
  induction j with
  | zero => simp [mfold]
  | succ j ih =>
    rcases Nat.lt_or_ge j L.length with h | h
    · rw [mfold_succ (List.getElem?_eq_getElem h)]
      generalize mfold (L.take j) = O at *
      rcases snoc_cases O with rfl | ⟨A, t, rfl⟩
      · simp [mstep_nil]
      · by_cases hm : (L[j]).lo ≤ t.hi + 1
        · rw [mstep_in hm]; simp at *; omega
        · rw [mstep_new hm]; simp at *; omega
    · have e : L.take (j + 1) = L.take j := by rw [List.take_of_length_le h, List.take_of_length_le (by omega)]
      rw [e]; omega
theorem formOf_len (L : List SpanV) : (formOf L).length ≤ L.length := by
  have hp : ((L.filter okS).mergeSort (fun x y => decide (x.lo ≤ y.lo))).Perm (L.filter okS) := List.mergeSort_perm _ _
  have hs : ((L.filter okS).mergeSort (fun x y => decide (x.lo ≤ y.lo))).Pairwise (fun x y => x.lo ≤ y.lo) := by
    have := List.pairwise_mergeSort (le := fun (x y : SpanV) => decide (x.lo ≤ y.lo)) (fun a b c h1 h2 => by simp at *; omega) (fun a b => by simp; omega) (L.filter okS)
    exact this.imp (fun h => by simpa using h)
  rw [(formOf_eq hp hs).1]
  generalize hM : (L.filter okS).mergeSort (fun x y => decide (x.lo ≤ y.lo)) = M at *
  have := mfold_len M M.length
  rw [List.take_length] at this
  have := hp.length_eq
  have := List.length_filter_le okS L
  omega

/-- What two spans have in common. -/
def meet1 (s t : SpanV) : List SpanV := if max s.lo t.lo ≤ min s.hi t.hi then [⟨max s.lo t.lo, min s.hi t.hi, by have := s.hlo; have := t.hlo; omega, by have := s.hhi; have := t.hhi; omega⟩] else []
theorem hasB_meet1 (s t : SpanV) (x : Int) : hasB (meet1 s t) x = (s.inB x && t.inB x) := by
  unfold meet1
  rw [Bool.eq_iff_iff, Bool.and_eq_true, inB_iff, inB_iff]
  split
  · rw [hasB_one, inB_iff]; show (max s.lo t.lo ≤ x ∧ x ≤ min s.hi t.hi) ↔ _; omega
  · rw [hasB_nil]; simp; omega
def meetRow (s : SpanV) (B : List SpanV) : List SpanV := B.flatMap (meet1 s)
def meetAll (A B : List SpanV) : List SpanV := A.flatMap (fun s => meetRow s B)
theorem hasB_flatMap {α : Type} (f : α → List SpanV) (A : List α) (x : Int) : hasB (A.flatMap f) x = A.any fun a => hasB (f a) x := by
  induction A with
  | nil => rfl
  | cons a A ih => rw [List.flatMap_cons, hasB_append, ih, List.any_cons]
theorem hasB_meetAll (A B : List SpanV) (x : Int) : hasB (meetAll A B) x = (hasB A x && hasB B x) := by
  unfold meetAll meetRow
  rw [hasB_flatMap]
  simp only [hasB_flatMap, hasB_meet1]
  rw [Bool.eq_iff_iff]
  simp [hasB]
  constructor
  · rintro ⟨s, hs, t, ht, h1, h2⟩; exact ⟨⟨s, hs, h1⟩, t, ht, h2⟩
  · rintro ⟨⟨s, hs, h1⟩, t, ht, h2⟩; exact ⟨s, hs, t, ht, h1, h2⟩
theorem meetRow_succ {s t : SpanV} {B : List SpanV} {k : Nat} (h : B[k]? = some t) : meetRow s (B.take (k + 1)) = meetRow s (B.take k) ++ meet1 s t := by
  unfold meetRow
  rw [List.take_add_one, h, List.flatMap_append]
  simp
theorem meetAll_succ {s : SpanV} {A B : List SpanV} {k : Nat} (h : A[k]? = some s) : meetAll (A.take (k + 1)) B = meetAll (A.take k) B ++ meetRow s B := by
  unfold meetAll
  rw [List.take_add_one, h, List.flatMap_append]
  simp
theorem meet1_len (s t : SpanV) : (meet1 s t).length ≤ 1 := by unfold meet1; split <;> simp
theorem meetRow_len (s : SpanV) (B : List SpanV) : (meetRow s B).length ≤ B.length := by
  induction B with
  | nil => simp [meetRow]
  | cons t B ih =>
    have := meet1_len s t
    simp only [meetRow, List.flatMap_cons, List.length_append, List.length_cons] at *
    omega
theorem meetAll_len (A B : List SpanV) : (meetAll A B).length ≤ A.length * B.length := by
  induction A with
  | nil => simp [meetAll]
  | cons s A ih =>
    have := meetRow_len s B
    simp only [meetAll, List.flatMap_cons, List.length_append, List.length_cons, Nat.succ_mul] at *
    omega

/-- What is not in a list, up to most: step by step over its form. -/
def gapOf (at' most : Int) (s : SpanV) : List SpanV :=
  if h : 0 ≤ at' ∧ at' < s.lo ∧ at' ≤ most ∧ most < 4294967296 then [⟨at', min (s.lo - 1) most, by omega, by omega⟩] else []
def natAt (F : List SpanV) : Int := match F.getLast? with | none => 0 | some s => s.hi + 1
theorem natAt_succ {F : List SpanV} {k : Nat} {s : SpanV} (h : F[k]? = some s) : natAt (F.take (k + 1)) = s.hi + 1 := by
  rw [List.take_add_one, h]
  simp [natAt]
theorem natAt_range {F : List SpanV} : 0 ≤ natAt F ∧ natAt F ≤ 4294967296 := by
  rcases snoc_cases F with rfl | ⟨A, t, rfl⟩
  · simp [natAt]
  · simp [natAt]; have := t.hhi; omega
theorem hasB_natAt {F : List SpanV} (h : NF F) {x : Int} (hx : hasB F x = true) : x < natAt F := by
  rcases snoc_cases F with rfl | ⟨A, t, rfl⟩
  · simp [hasB] at hx
  · obtain ⟨h1, h2, h3⟩ := NF.snoc.1 h
    obtain ⟨s, hs, hx1, hx2⟩ := hasB_iff.1 hx
    have e : natAt (A ++ [t]) = t.hi + 1 := by simp [natAt]
    rw [e]
    rcases List.mem_append.1 hs with hs | hs
    · have := h3 s hs; omega
    · obtain rfl := List.mem_singleton.1 hs; omega
theorem NF.take {F : List SpanV} (h : NF F) : ∀ k, NF (F.take k) := by
  induction F with
  | nil => intro k; simp [NF]
  | cons s r ih =>
    intro k
    cases k with
    | zero => trivial
    | succ k => exact ⟨h.1, fun t ht => h.2.1 t (List.mem_of_mem_take ht), ih h.2.2 k⟩
theorem NF.at_le {F : List SpanV} (h : NF F) {k : Nat} {s : SpanV} (hk : F[k]? = some s) : natAt (F.take k) ≤ s.lo := by
  have h1 := h.take (k + 1)
  rw [List.take_add_one, hk] at h1
  obtain ⟨_, h3, h4⟩ := NF.snoc.1 (show NF (F.take k ++ [s]) from h1)
  rcases snoc_cases (F.take k) with e | ⟨A, t, e⟩
  · rw [e]; exact s.hlo.1
  · rw [e] at h4 ⊢
    have := h4 t (List.mem_append_right _ (List.mem_singleton.2 rfl))
    simp [natAt]; omega
def notTo (most : Int) (F : List SpanV) : Nat → List SpanV
  | 0 => []
  | k + 1 => notTo most F k ++ (match F[k]? with | some s => gapOf (natAt (F.take k)) most s | none => [])
theorem notTo_succ {most : Int} {F : List SpanV} {k : Nat} {s : SpanV} (h : F[k]? = some s) : notTo most F (k + 1) = notTo most F k ++ gapOf (natAt (F.take k)) most s := by
  rw [notTo, h]
def lastOf (at' most : Int) : List SpanV := if h : 0 ≤ at' ∧ at' ≤ most ∧ most < 4294967296 then [⟨at', most, by omega, by omega⟩] else []
def notAll (most : Int) (F : List SpanV) : List SpanV := notTo most F F.length ++ lastOf (natAt F) most
theorem gapOf_len (a m : Int) (s : SpanV) : (gapOf a m s).length ≤ 1 := by unfold gapOf; split <;> simp
theorem notTo_len (most : Int) (F : List SpanV) (k : Nat) : (notTo most F k).length ≤ k := by
  induction k with
  | zero => simp [notTo]
  | succ k ih =>
    rw [notTo, List.length_append]
    split
    · have := gapOf_len (natAt (F.take k)) most ‹_›; omega
    · simp; omega
/-- What is in none of a list, up to most. -/
def notP (most : Int) (L : List SpanV) (x : Int) : Bool := decide (0 ≤ x) && decide (x ≤ most) && !hasB L x
theorem notTo_ok {most : Int} {F : List SpanV} (hF : NF F) (hm : 0 ≤ most ∧ most < 4294967296) : ∀ k, k ≤ F.length →
    NF (notTo most F k) ∧ (∀ a ∈ notTo most F k, a.hi + 1 < natAt (F.take k)) ∧ ∀ x, hasB (notTo most F k) x = (notP most (F.take k) x && decide (x < natAt (F.take k))) := by
  intro k
  induction k with
  | zero =>
    intro _
    refine ⟨trivial, fun a ha => by simp [notTo] at ha, fun x => ?_⟩
    by_cases h0 : 0 ≤ x
    · have h1 : ¬ x < 0 := by omega
      simp [notTo, hasB_nil, natAt, h1]
    · simp [notTo, hasB_nil, notP, natAt, h0]
  | succ k ih =>
    intro hk
    obtain ⟨h1, h2, h3⟩ := ih (by omega)
    obtain ⟨s, hs⟩ : ∃ s, F[k]? = some s := ⟨_, List.getElem?_eq_getElem (by omega)⟩
    have hsv : s.lo ≤ s.hi := hF.ok s (List.mem_of_getElem? hs)
    have hat := hF.at_le hs
    have hat0 := (natAt_range (F := F.take k)).1
    rw [notTo_succ hs, natAt_succ hs]
    have hin : ∀ x, hasB (F.take k) x = true → x < natAt (F.take k) := fun x hx => hasB_natAt (hF.take k) hx
    generalize natAt (F.take k) = A at *
    have hmem : ∀ x, hasB (notTo most F k ++ gapOf A most s) x = (notP most (F.take (k + 1)) x && decide (x < s.hi + 1)) := by
      intro x
      have hin := hin x
      rw [hasB_append, h3, notP, notP, hasB_take_succ hs]
      have hg : hasB (gapOf A most s) x = (decide (A ≤ x) && decide (x < s.lo) && decide (x ≤ most)) := by
        unfold gapOf
        split
        · rw [hasB_one, Bool.eq_iff_iff, inB_iff]
          simp
          show A ≤ x ∧ x ≤ min (s.lo - 1) most ↔ _
          omega
        · rw [hasB_nil]
          simp
          omega
      rw [hg]
      have hi : s.inB x = (decide (s.lo ≤ x) && decide (x ≤ s.hi)) := rfl
      rw [hi]
      cases hx : hasB (F.take k) x with
      | true =>
        have := hin hx
        simp
        omega
      | false =>
        rw [Bool.eq_iff_iff]
        simp
        omega
    refine ⟨?_, ?_, hmem⟩
    · by_cases hg : 0 ≤ A ∧ A < s.lo ∧ A ≤ most ∧ most < 4294967296
      · rw [gapOf, dif_pos hg]
        refine NF.snoc.2 ⟨h1, ?_, fun a ha => h2 a ha⟩
        show A ≤ min (s.lo - 1) most
        omega
      · rw [gapOf, dif_neg hg, List.append_nil]
        exact h1
    · intro a ha
      rcases List.mem_append.1 ha with ha | ha
      · have := h2 a ha; omega
      · unfold gapOf at ha
        split at ha
        · obtain rfl := List.mem_singleton.1 ha
          show min (s.lo - 1) most + 1 < _
          omega
        · simp at ha
theorem notAll_ok {most : Int} {F : List SpanV} (hF : NF F) (hm : 0 ≤ most ∧ most < 4294967296) : NF (notAll most F) ∧ ∀ x, hasB (notAll most F) x = notP most F x := by
  obtain ⟨h1, h2, h3⟩ := notTo_ok hF hm F.length (Nat.le_refl _)
  rw [List.take_length] at h2 h3
  have hat0 := (natAt_range (F := F)).1
  have hin : ∀ x, hasB F x = true → x < natAt F := fun x hx => hasB_natAt hF hx
  unfold notAll
  generalize natAt F = A at *
  refine ⟨?_, fun x => ?_⟩
  · unfold lastOf
    split
    · rename_i hg
      exact NF.snoc.2 ⟨h1, hg.2.1, fun a ha => h2 a ha⟩
    · rw [List.append_nil]; exact h1
  · rw [hasB_append, h3]
    have hg : hasB (lastOf A most) x = (decide (A ≤ x) && decide (x ≤ most)) := by
      unfold lastOf
      split
      · rw [hasB_one, Bool.eq_iff_iff, inB_iff]; simp
      · rw [hasB_nil]; simp; intro _; omega
    rw [hg]
    have hin := hin x
    unfold notP
    cases hx : hasB F x with
    | true => have := hin hx; simp; omega
    | false => rw [Bool.eq_iff_iff]; simp; omega
theorem notP_form (most : Int) (L : List SpanV) : notP most (formOf L) = notP most L := by
  funext x; unfold notP; rw [(formOf_ok L).2]
theorem theSet_not {most : Int} (hm : 0 ≤ most ∧ most < 4294967296) (L : List SpanV) : theSet (notP most L) = notAll most (formOf L) := by
  obtain ⟨h1, h2⟩ := notAll_ok (formOf_ok L).1 hm
  exact theSet_eq h1 (fun x => by rw [h2, notP_form])

end Go.Proofs.YthgmmajoinkblaaDoor

/-
  The walk of spans.Form.
-/
namespace Go.Proofs.YthgmmajoinkblaaDoor
open Go Go.RowKit Go.Lib Go.Sort

theorem Tryd.infoSpan : (Tryd.prog.info? 24).map (fun i => (i.zero, i.size, i.bytes)) = some (some (.agg #[.int .u32 0, .int .u32 0]), 2, 8) := by kernel_rfl
theorem below_drew1 {B : Nat} {a w : World} (h : Below B a w) : Below B a w.drew := ⟨h.os, h.tape, h.output, h.size, h.block⟩
/-- A new list of spans is handed back; nothing that was there has turned. -/
def SetRes (R : List SpanV) (w : World) (e : Ending) (w' : World) : Prop :=
  ∃ v, e = .returned v ∧ w'.ownsRow w.heap.size 24 2 v R.length (scells R) ∧ Below w.heap.size w w'
theorem scells_one (L : List SpanV) : ∀ u ∈ scells L, u.oneCell' = true := by
  intro u hu
  obtain ⟨r, _, hr⟩ := List.mem_flatMap.1 hu
  simp only [SpanV.enc, List.mem_cons, List.not_mem_nil, or_false] at hr
  rcases hr with rfl | rfl <;> rfl
theorem enc_one (s : SpanV) : ∀ u ∈ s.enc, u.oneCell' = true := by
  intro u hu
  simp only [SpanV.enc, List.mem_cons, List.not_mem_nil, or_false] at hu
  rcases hu with rfl | rfl <;> rfl
theorem scells_len (L : List SpanV) : (scells L).length = L.length * 2 := flat_len SpanV.enc 2 span_len L
theorem scells_append (A B : List SpanV) : scells (A ++ B) = scells A ++ scells B := by simp [scells]
theorem scells_snoc (A : List SpanV) (s : SpanV) : scells (A ++ [s]) = scells A ++ s.enc := by simp [scells]
theorem filter_succ {L : List SpanV} {j : Nat} {s : SpanV} (h : L[j]? = some s) : (L.take (j + 1)).filter okS = (L.take j).filter okS ++ (if s.lo ≤ s.hi then [s] else []) := by
  rw [List.take_add_one, h, List.filter_append]
  congr 1
  by_cases hs : s.lo ≤ s.hi <;> simp [okS, hs]
theorem filter_take_len (L : List SpanV) (j : Nat) : ((L.take j).filter okS).length ≤ j := by
  have := List.length_filter_le okS (L.take j)
  simp at this; omega
theorem scells_set {A : List SpanV} {t y : SpanV} (h : y.lo = t.lo) : (scells (A ++ [t])).set (A.length * 2 + 1) (.int .u32 y.hi) = scells (A ++ [y]) := by
  rw [scells_snoc, scells_snoc, List.set_append_right _ _ (by rw [scells_len]; omega), scells_len, show A.length * 2 + 1 - A.length * 2 = 1 by omega]
  show scells A ++ [.int .u32 t.lo, .int .u32 y.hi] = scells A ++ [.int .u32 y.lo, .int .u32 y.hi]
  rw [h]

set_option maxRecDepth 100000 in
set_option maxHeartbeats 4000000 in
theorem form_any (L : List SpanV) (vl : Value) (w : World) (hl : Rd w w.heap.size 2 vl L.length (scells L)) (hlen : L.length ≤ 1099511627776) :
    Calls Tryd.prog 9 #[vl] w (SetRes (formOf L) w) := by
  obtain ⟨i0, hi, hz0, hz1, hz2⟩ := info_parts Tryd.infoSpan
  obtain ⟨A0, c0, rfl, hc0⟩ := hl.form
  have HL := Lib.hid hl
  clear hl
  go_enter Tryd.func9, Tryd.ntmps9
  go_wp2
  go_loopw [3, 12] (fun v i wr => ∃ j : Nat, i = .int .i64 j ∧ j ≤ L.length ∧ wr.ownsRow w.heap.size 24 2 v ((L.take j).filter okS).length (scells ((L.take j).filter okS)) ∧ Below w.heap.size w wr) (fun _ i _ => L.length - (intOf i).toNat)
  case atStart => exact ⟨0, rfl, by omega, World.ownsRow_nil _ _ _ _, Below.refl _ _⟩
  case round =>
    obtain ⟨j, rfl, hj, hown, hnx⟩ := hrel
    by_cases hlt : j < L.length
    · have hI : (j : Int) < (L.length : Int) := by omega
      obtain ⟨s, hs⟩ : ∃ s, L[j]? = some s := ⟨_, List.getElem?_eq_getElem hlt⟩
      obtain ⟨b, off, c', hv, _, hbB, hcell⟩ := (HL.out.below hnx).posAt (by omega)
      injection hv with hv1 _ hv3
      subst hv1 hv3
      have f0 : wr.cell? ⟨b, off + j * 2, none⟩ = some (.int .u32 s.lo) := hcell j 0 _ (scell hs rfl)
      have f1 : wr.cell? ⟨b, off + j * 2 + 1, none⟩ = some (.int .u32 s.hi) := hcell j 1 _ (scell hs rfl)
      have hfl := filter_take_len L j
      have hsz := hnx.size
      clear hcell
      have hstep := filter_succ hs
      have hbox := below1 wr (.cells #[.int .u32 s.lo, .int .u32 s.hi] 24)
      by_cases hok : s.lo ≤ s.hi
      · rw [if_pos hok] at hstep
        go_wp2_with (at_builtin; refine wpList_push rfl _ _ 25 rfl 24 i0 _ 2 8 Tryd.underlying25 hi hz0 hz1 hz2 rfl (by decide) (by decide) [.int .u32 s.lo, .int .u32 s.hi] rfl rfl (by simp) (hown.alloc _) rfl (enc_one s) (by omega) (by simp; omega) (hnx.alloc hsz _) (Nat.le_refl _) ?_; intro v2 w2 hown2 hb2)
        refine ⟨⟨j + 1, rfl, by omega, ?_, hb2⟩, by simp only [intOf]; omega⟩
        rw [hstep, scells_snoc, List.length_append]
        exact hown2
      · rw [if_neg hok, List.append_nil] at hstep
        go_wp2
        exact ⟨⟨j + 1, rfl, by omega, by rw [hstep]; exact hown.alloc _, hnx.alloc hsz _⟩, by simp only [intOf]; omega⟩
    · have hI : ¬ (j : Int) < (L.length : Int) := by omega
      obtain rfl : j = L.length := by omega
      rw [List.take_length] at hown
      have hfl := List.length_filter_le okS L
      have hsz := hnx.size
      go_wp2_with fail
      refine (sortSpan_any _ _ _ _ hown (by omega)).mono ?_
      rintro e w1 ⟨rfl, L', hperm, hpw, hR, hbel⟩
      have hb1 : Below w.heap.size w w1 := hnx.trans (hbel _ (Nat.le_refl _) hsz)
      have hlen' : L'.length ≤ L.length := by rw [hperm.length_eq]; exact hfl
      have hF := formOf_eq hperm hpw
      have hml := mfold_len L'
      have hsz1 := hb1.size
      obtain ⟨A2, c2, rfl, hc2⟩ := hR.form
      have HF := Lib.hid hF
      have HR := Lib.hid hR
      have HB1 := Lib.hid hb1
      have HML := Lib.hid hml
      clear hown hnx hfl hperm hpw hbel hF hb1 hml hR
      go_wp2
      go_loopw [6, 30] (fun v i wr => ∃ j : Nat, i = .int .i64 j ∧ j ≤ L'.length ∧ wr.ownsRow w1.heap.size 24 2 v (mfold (L'.take j)).length (scells (mfold (L'.take j))) ∧ Below w1.heap.size w1 wr) (fun _ i _ => L'.length - (intOf i).toNat)
      case atStart => exact ⟨0, rfl, by omega, World.ownsRow_nil _ _ _ _, Below.refl _ _⟩
      case round =>
        obtain ⟨j, rfl, hj, hown, hnx⟩ := hrel
        have hsz := hnx.size
        by_cases hlt : j < L'.length
        · have hI : (j : Int) < (L'.length : Int) := by omega
          obtain ⟨s, hs⟩ : ∃ s, L'[j]? = some s := ⟨_, List.getElem?_eq_getElem hlt⟩
          obtain ⟨b, off, c', hv, _, hbB, hcell⟩ := (HR.out.below hnx).posAt (by omega)
          injection hv with hv1 _ hv3
          subst hv1 hv3
          have f0 : wr.cell? ⟨b, off + j * 2, none⟩ = some (.int .u32 s.lo) := hcell j 0 _ (scell hs rfl)
          have f1 : wr.cell? ⟨b, off + j * 2 + 1, none⟩ = some (.int .u32 s.hi) := hcell j 1 _ (scell hs rfl)
          clear hcell
          have hstep := mfold_succ hs
          have hOl := HML.out j
          generalize mfold (L'.take j) = O at *
          have hHS := Lib.hid hstep
          clear hstep hs
          have hownA := hown.alloc (.cells #[.int .u32 s.lo, .int .u32 s.hi] 24)
          have hnxA := hnx.alloc hsz (.cells #[.int .u32 s.lo, .int .u32 s.hi] 24)
          have kb := blk1 wr (.cells #[.int .u32 s.lo, .int .u32 s.hi] 24)
          have hszA : w1.heap.size ≤ (wr.alloc (.cells #[.int .u32 s.lo, .int .u32 s.hi] 24)).heap.size := by simp; omega
          have hlo := s.hlo
          have hhi := s.hhi
          rcases snoc_cases O with rfl | ⟨A, t, rfl⟩
          · obtain ⟨A3, c3, rfl, _⟩ := owns_form hown
            have HO := Lib.hid hownA
            have HN := Lib.hid hnxA
            have HK := Lib.hid kb
            obtain ⟨x0, x1, _, _⟩ := two_cells kb
            clear hown hnx hownA hnxA kb
            go_wp2
            refine wp_region_quiet_below (by kernel_rfl) (by kernel_rfl) ?_
            repeat (first | go_big_quiet_step (fail) | quiet_step (fail))
            refine wpQuiet_nil ?_
            intro _ hw'
            obtain ⟨⟨nq, osq⟩, hw''⟩ := hw'
            subst hw''
            have hq := below_regrown (wr.alloc (.cells #[.int .u32 s.lo, .int .u32 s.hi] 24)) nq osq
            have own1 := owns_kept_none HO.out (only_of_below hq none)
            have nx1 := HN.out.trans (hq.mono hszA)
            have sz1 := nx1.size
            obtain ⟨y0, y1, _, _⟩ := two_cells (blk_below hq HK.out)
            clear x0 x1 HO HN HK f0 f1
            generalize grow (redrawn (wr.alloc (.cells #[.int .u32 s.lo, .int .u32 s.hi] 24)) nq) osq = W1 at *
            clear hq
            go_wp2_with (at_builtin; refine wpList_push rfl _ _ 25 rfl 24 i0 _ 2 8 Tryd.underlying25 hi hz0 hz1 hz2 rfl (by decide) (by decide) [.int .u32 s.lo, .int .u32 s.hi] rfl rfl (by simp) own1 rfl (enc_one s) (by simp) (by omega) nx1 (Nat.le_refl _) ?_; intro v2 w2 hown2 hb2)
            refine ⟨⟨j + 1, by go_num, by omega, ?_, hb2⟩, by simp only [intOf]; omega⟩
            rw [hHS.out, mstep_nil]
            exact hown2
          · have hl1 : (A ++ [t]).length = A.length + 1 := by simp
            rw [hl1] at hown hownA hOl
            obtain ⟨A3, c3, rfl, hA3⟩ := owns_form hown
            obtain ⟨g, rfl⟩ := hA3 (by omega)
            have e1 : (wr.alloc (.cells #[.int .u32 s.lo, .int .u32 s.hi] 24)).cell? ⟨g, A.length * 2 + 1, none⟩ = some (.int .u32 t.hi) := (hownA.cellAt (A.length * 2 + 1) (by omega)).trans (scell (L := A ++ [t]) (k := A.length) (i := 1) (x := t) (by simp) rfl)
            have HO := Lib.hid hownA
            have HN := Lib.hid hnxA
            have HK := Lib.hid kb
            obtain ⟨x0, x1, _, _⟩ := two_cells kb
            have F0 := cell_regrown x0
            have F1 := cell_regrown x1
            have F2 := cell_regrown e1
            have hthi := t.hhi
            clear hown hnx hownA hnxA kb
            have hm : (t.hi == 4294967295) = true ∨ ((t.hi == 4294967295) = false ∧ (t.hi + 1) % 4294967296 = t.hi + 1 ∧ decide (s.lo ≤ t.hi + 1) = true) ∨ ((t.hi == 4294967295) = false ∧ (t.hi + 1) % 4294967296 = t.hi + 1 ∧ decide (s.lo ≤ t.hi + 1) = false) := by
              by_cases h1 : t.hi = 4294967295
              · exact .inl (by simp [h1])
              · by_cases h2 : s.lo ≤ t.hi + 1
                · exact .inr (.inl ⟨by simp [h1], by omega, by simp [h2]⟩)
                · exact .inr (.inr ⟨by simp [h1], by omega, by simp; omega⟩)
            rcases hm with hm1 | ⟨hm1, hm2, hm3⟩ | ⟨hm1, hm2, hm3⟩
            · have hmg : s.lo ≤ t.hi + 1 := by
                have := eq_of_beq hm1
                omega
              have HM := Lib.hid hmg
              clear hmg
              go_wp2
              refine wp_region_quiet_below (by kernel_rfl) (by kernel_rfl) ?_
              repeat (first | go_big_quiet_step (fail) | quiet_step (fail))
              refine wpQuiet_nil ?_
              intro _ hw'
              obtain ⟨⟨nq, osq⟩, hw''⟩ := hw'
              subst hw''
              have hq := below_regrown (wr.alloc (.cells #[.int .u32 s.lo, .int .u32 s.hi] 24)) nq osq
              have own1 := owns_kept_none HO.out (only_of_below hq none)
              have nx1 := HN.out.trans (hq.mono hszA)
              have sz1 := nx1.size
              have kb1 := blk_below hq HK.out
              obtain ⟨y0, y1, _, _⟩ := two_cells kb1
              clear F0 F1 F2 x0 x1 e1 HO HN HK f0 f1
              generalize grow (redrawn (wr.alloc (.cells #[.int .u32 s.lo, .int .u32 s.hi] 24)) nq) osq = W1 at *
              clear hq
              have z1 : W1.cell? ⟨g, A.length * 2 + 1, none⟩ = some (.int .u32 t.hi) := (own1.cellAt (A.length * 2 + 1) (by omega)).trans (scell (L := A ++ [t]) (k := A.length) (i := 1) (x := t) (by simp) rfl)
              have z2 := own1.frozenAt (A.length * 2 + 1)
              have hgB := (own1.lt g rfl).1
              have hi1 : (0 : Int) ≤ (A.length : Int) := by omega
              have hi2 : (A.length : Int) < (A.length : Int) + 1 := by omega
              have hi3 : (A.length : Int) ≤ 9223372036854775807 := by omega
              have hi4 : IntKind.i64.wrap (A.length : Int) = (A.length : Int) := by rw [IntKind.wrap_i64]; omega
              go_wp2
              go_still_tail 14, (by kernel_rfl)
              have own2 := owns_kept_none own1 (only_drew (World.grownBy.refl W1 none))
              have nx2 := below_drew1 nx1
              have z3 : W1.drew.cell? ⟨g, A.length * 2 + 1, none⟩ = some (.int .u32 t.hi) := z1
              have z4 : W1.drew.frozen? ⟨g, A.length * 2 + 1, none⟩ = false := z2
              clear own1 nx1 z1 z2 kb1 y0 y1 sz1
              change wpList _ _ _ _ _ W1.drew
              generalize W1.drew = W2 at *
              go_wp2
              have s1 := (own2.stored (A.length * 2 + 1) (.int .u32 (max t.hi s.hi))).1
              rw [show (scells (A ++ [t])).set (A.length * 2 + 1) (.int .u32 (max t.hi s.hi)) = scells (A ++ [t.reach s]) from scells_set (A := A) (t := t) (y := t.reach s) rfl] at s1
              refine ⟨⟨j + 1, by go_num, by omega, ?_, nx2.setCell (p := ⟨g, A.length * 2 + 1, none⟩) hgB _⟩, by simp only [intOf]; omega⟩
              rw [hHS.out, mstep_in HM.out, List.length_append]
              exact s1
            · have hmg : s.lo ≤ t.hi + 1 := of_decide_eq_true hm3
              have HM := Lib.hid hmg
              clear hmg
              go_wp2
              refine wp_region_quiet_below (by kernel_rfl) (by kernel_rfl) ?_
              repeat (first | go_big_quiet_step (fail) | quiet_step (fail))
              refine wpQuiet_nil ?_
              intro _ hw'
              obtain ⟨⟨nq, osq⟩, hw''⟩ := hw'
              subst hw''
              have hq := below_regrown (wr.alloc (.cells #[.int .u32 s.lo, .int .u32 s.hi] 24)) nq osq
              have own1 := owns_kept_none HO.out (only_of_below hq none)
              have nx1 := HN.out.trans (hq.mono hszA)
              have sz1 := nx1.size
              have kb1 := blk_below hq HK.out
              obtain ⟨y0, y1, _, _⟩ := two_cells kb1
              clear F0 F1 F2 x0 x1 e1 HO HN HK f0 f1
              generalize grow (redrawn (wr.alloc (.cells #[.int .u32 s.lo, .int .u32 s.hi] 24)) nq) osq = W1 at *
              clear hq
              have z1 : W1.cell? ⟨g, A.length * 2 + 1, none⟩ = some (.int .u32 t.hi) := (own1.cellAt (A.length * 2 + 1) (by omega)).trans (scell (L := A ++ [t]) (k := A.length) (i := 1) (x := t) (by simp) rfl)
              have z2 := own1.frozenAt (A.length * 2 + 1)
              have hgB := (own1.lt g rfl).1
              have hi1 : (0 : Int) ≤ (A.length : Int) := by omega
              have hi2 : (A.length : Int) < (A.length : Int) + 1 := by omega
              have hi3 : (A.length : Int) ≤ 9223372036854775807 := by omega
              have hi4 : IntKind.i64.wrap (A.length : Int) = (A.length : Int) := by rw [IntKind.wrap_i64]; omega
              go_wp2
              go_still_tail 14, (by kernel_rfl)
              have own2 := owns_kept_none own1 (only_drew (World.grownBy.refl W1 none))
              have nx2 := below_drew1 nx1
              have z3 : W1.drew.cell? ⟨g, A.length * 2 + 1, none⟩ = some (.int .u32 t.hi) := z1
              have z4 : W1.drew.frozen? ⟨g, A.length * 2 + 1, none⟩ = false := z2
              clear own1 nx1 z1 z2 kb1 y0 y1 sz1
              change wpList _ _ _ _ _ W1.drew
              generalize W1.drew = W2 at *
              go_wp2
              have s1 := (own2.stored (A.length * 2 + 1) (.int .u32 (max t.hi s.hi))).1
              rw [show (scells (A ++ [t])).set (A.length * 2 + 1) (.int .u32 (max t.hi s.hi)) = scells (A ++ [t.reach s]) from scells_set (A := A) (t := t) (y := t.reach s) rfl] at s1
              refine ⟨⟨j + 1, by go_num, by omega, ?_, nx2.setCell (p := ⟨g, A.length * 2 + 1, none⟩) hgB _⟩, by simp only [intOf]; omega⟩
              rw [hHS.out, mstep_in HM.out, List.length_append]
              exact s1
            · have hmg : ¬ s.lo ≤ t.hi + 1 := of_decide_eq_false hm3
              have HM := Lib.hid hmg
              clear hmg
              go_wp2
              refine wp_region_quiet_below (by kernel_rfl) (by kernel_rfl) ?_
              repeat (first | go_big_quiet_step (fail) | quiet_step (fail))
              refine wpQuiet_nil ?_
              intro _ hw'
              obtain ⟨⟨nq, osq⟩, hw''⟩ := hw'
              subst hw''
              have hq := below_regrown (wr.alloc (.cells #[.int .u32 s.lo, .int .u32 s.hi] 24)) nq osq
              have own1 := owns_kept_none HO.out (only_of_below hq none)
              have nx1 := HN.out.trans (hq.mono hszA)
              have sz1 := nx1.size
              have kb1 := blk_below hq HK.out
              obtain ⟨y0, y1, _, _⟩ := two_cells kb1
              clear F0 F1 F2 x0 x1 e1 HO HN HK f0 f1
              generalize grow (redrawn (wr.alloc (.cells #[.int .u32 s.lo, .int .u32 s.hi] 24)) nq) osq = W1 at *
              clear hq
              go_wp2_with (at_builtin; refine wpList_push rfl _ _ 25 rfl 24 i0 _ 2 8 Tryd.underlying25 hi hz0 hz1 hz2 rfl (by decide) (by decide) [.int .u32 s.lo, .int .u32 s.hi] rfl rfl (by simp) own1 rfl (enc_one s) (by omega) (by omega) nx1 (Nat.le_refl _) ?_; intro v2 w2 hown2 hb2)
              refine ⟨⟨j + 1, by go_num, by omega, ?_, hb2⟩, by simp only [intOf]; omega⟩
              rw [hHS.out, mstep_new (by have := HM.out; omega), scells_snoc (A ++ [t]), List.length_append, hl1]
              exact hown2
        · obtain rfl : j = L'.length := by omega
          rw [List.take_length] at hown
          go_wp2
          go_ret
          refine ⟨_, rfl, ?_, HB1.out.trans (hnx.mono hsz1)⟩
          rw [HF.out.1]
          exact owns_base hown hsz1

end Go.Proofs.YthgmmajoinkblaaDoor

/-
  The document's sets: numbers put in their place, the cuts, the set that is made from cut to cut; numbers counted. No program in sight.
-/
namespace Go.Proofs.YthgmmajoinkblaaDoor

/-- Rising, each once. -/
def Rising (l : List Int) : Prop := l.Pairwise (· < ·)
/-- A number's place: all before it are not greater, all from it on are. -/
theorem rising_put {l : List Int} (h : Rising l) {x : Int} {k : Nat} (h1 : ∀ y ∈ l.take k, y < x) (h2 : ∀ y ∈ l.drop k, x < y) :
    Rising (l.take k ++ x :: l.drop k) ∧ ∀ y, y ∈ l.take k ++ x :: l.drop k ↔ y ∈ l ∨ y = x := by
  constructor
  · unfold Rising at *
    rw [← List.take_append_drop k l, List.pairwise_append] at h
    refine List.pairwise_append.2 ⟨h.1, List.pairwise_cons.2 ⟨h2, h.2.1⟩, fun a ha b hb => ?_⟩
    rcases List.mem_cons.1 hb with rfl | hb
    · exact h1 a ha
    · exact h.2.2 a ha b hb
  · intro y
    have : y ∈ l ↔ y ∈ l.take k ∨ y ∈ l.drop k := by
      rw [← List.mem_append, List.take_append_drop]
    rw [this, List.mem_append, List.mem_cons]
    constructor
    · rintro (h | rfl | h)
      · exact .inl (.inl h)
      · exact .inr rfl
      · exact .inl (.inr h)
    · rintro ((h | h) | rfl)
      · exact .inl h
      · exact .inr (.inr h)
      · exact .inr (.inl rfl)
def isMark (most : Int) (s : SpanV) (y : Int) : Prop := s.lo ≤ s.hi ∧ (y = s.lo ∨ y = s.hi + 1) ∧ y ≤ most
/-- The cuts of sets: 0, and each mark. -/
def CutsOf (most : Int) (S : List SpanV) (C : List Int) : Prop := Rising C ∧ (∀ y ∈ C, 0 ≤ y ∧ y < 4294967296) ∧ ∀ y, y ∈ C ↔ y = 0 ∨ ∃ s ∈ S, isMark most s y
theorem CutsOf.head {most : Int} {S : List SpanV} {C : List Int} (h : CutsOf most S C) : ∃ r, C = 0 :: r := by
  have h0 : (0 : Int) ∈ C := (h.2.2 0).2 (.inl rfl)
  cases C with
  | nil => simp at h0
  | cons c r =>
    refine ⟨r, ?_⟩
    have hc := (h.2.1 c (List.mem_cons_self ..)).1
    rcases List.mem_cons.1 h0 with rfl | h0
    · rfl
    · have := (List.pairwise_cons.1 h.1).1 0 h0
      omega
/-- The end of the part that begins at the i-th cut. -/
def cutEnd (most : Int) (C : List Int) (i : Nat) : Int := match C[i]? with | some y => y | none => most + 1
theorem CutsOf.le {most : Int} (hm : 0 ≤ most) {S : List SpanV} {C : List Int} (h : CutsOf most S C) {y : Int} (hy : y ∈ C) : y ≤ most := by
  rcases (h.2.2 y).1 hy with rfl | ⟨s, _, hs⟩
  · exact hm
  · exact hs.2.2
theorem CutsOf.lt_end {most : Int} (hm : 0 ≤ most) {S : List SpanV} {C : List Int} (h : CutsOf most S C) {i : Nat} {c : Int} (hc : C[i]? = some c) : c < cutEnd most C (i + 1) := by
  unfold cutEnd
  cases hn : C[i + 1]? with
  | none => have := h.le hm (List.mem_of_getElem? hc); show c < most + 1; omega
  | some y =>
    obtain ⟨hi, e⟩ := List.getElem?_eq_some_iff.1 hc
    obtain ⟨hi2, e2⟩ := List.getElem?_eq_some_iff.1 hn
    have := List.pairwise_iff_getElem.1 h.1 i (i + 1) hi hi2 (by omega)
    show c < y
    omega
theorem CutsOf.none_between {most : Int} {S : List SpanV} {C : List Int} (h : CutsOf most S C) {i : Nat} {c y : Int} (hc : C[i]? = some c) (h1 : c < y) (h2 : y < cutEnd most C (i + 1)) : y ∉ C := by
  intro hy
  obtain ⟨j, hj, e⟩ := List.getElem_of_mem hy
  obtain ⟨hi, ei⟩ := List.getElem?_eq_some_iff.1 hc
  have hij : i < j := by
    rcases Nat.lt_trichotomy i j with h' | h' | h'
    · exact h'
    · subst h'; omega
    · have := List.pairwise_iff_getElem.1 h.1 j i hj hi h'; omega
  unfold cutEnd at h2
  have hn : C[i + 1]? = some C[i + 1] := List.getElem?_eq_getElem (by omega)
  rw [hn] at h2
  change y < C[i + 1] at h2
  rcases Nat.eq_or_lt_of_le (show i + 1 ≤ j from hij) with h' | h'
  · subst h'; omega
  · have := List.pairwise_iff_getElem.1 h.1 (i + 1) j (by omega) hj h'; omega
/-- From one cut to the next nothing begins and nothing ends. -/
theorem CutsOf.same {most : Int} (hm : 0 ≤ most) {S : List SpanV} {C : List Int} (h : CutsOf most S C) {L : List SpanV} (hL : ∀ s ∈ L, s ∈ S) {i : Nat} {c x : Int} (hc : C[i]? = some c) (h1 : c ≤ x) (h2 : x < cutEnd most C (i + 1)) :
    hasB L x = hasB L c := by
  have hxm : x ≤ most := by
    unfold cutEnd at h2
    cases hn : C[i + 1]? with
    | none => rw [hn] at h2; change x < most + 1 at h2; omega
    | some y => rw [hn] at h2; change x < y at h2; have := h.le hm (List.mem_of_getElem? hn); omega
  have key : ∀ s ∈ L, s.inB x = s.inB c := by
    intro s hs
    have n1 : s.lo ≤ s.hi → c < s.lo → x < s.lo := by
      intro hv hlo
      rcases Int.lt_or_le x s.lo with h' | h'
      · exact h'
      · exact absurd ((h.2.2 s.lo).2 (.inr ⟨s, hL s hs, hv, .inl rfl, by omega⟩)) (h.none_between hc hlo (by omega))
    have n2 : s.lo ≤ s.hi → c ≤ s.hi → x ≤ s.hi := by
      intro hv hhi
      rcases Int.lt_or_le s.hi x with h' | h'
      · exact absurd ((h.2.2 (s.hi + 1)).2 (.inr ⟨s, hL s hs, hv, .inr rfl, by omega⟩)) (h.none_between hc (by omega) (by omega))
      · exact h'
    rw [Bool.eq_iff_iff, inB_iff, inB_iff]
    rcases Int.lt_or_le s.hi s.lo with hv | hv
    · omega
    · have := n1 hv; have := n2 hv; omega
  have : ∀ M : List SpanV, (∀ s ∈ M, s.inB x = s.inB c) → hasB M x = hasB M c := by
    intro M
    induction M with
    | nil => intro _; rfl
    | cons s M ih =>
      intro hM
      have e1 := hM s (List.mem_cons_self ..)
      have e2 := ih (fun s hs => hM s (List.mem_cons_of_mem _ hs))
      simp only [hasB, List.any_cons] at *
      rw [e1, e2]
  exact this L key
/-- Is a number in what is made? -/
def soB (how : Int) (a b : List SpanV) (x : Int) : Bool :=
  if how = 1 then hasB a x || hasB b x else if how = 2 then hasB a x && hasB b x else if how = 3 then hasB a x && !hasB b x else !hasB a x
theorem CutsOf.so {most : Int} (hm : 0 ≤ most) {a b : List SpanV} {C : List Int} (h : CutsOf most (a ++ b) C) (how : Int) {i : Nat} {c x : Int} (hc : C[i]? = some c) (h1 : c ≤ x) (h2 : x < cutEnd most C (i + 1)) :
    soB how a b x = soB how a b c := by
  unfold soB
  rw [h.same hm (fun s hs => List.mem_append_left _ hs) hc h1 h2, h.same hm (L := b) (fun s hs => List.mem_append_right _ hs) hc h1 h2]
def soP (how most : Int) (a b : List SpanV) (x : Int) : Bool := decide (0 ≤ x) && decide (x ≤ most) && soB how a b x
/-- What has been made up to the i-th cut. -/
def MadeTo (how most : Int) (a b : List SpanV) (C : List Int) (i : Nat) (O : List SpanV) : Prop :=
  NF O ∧ (∀ t ∈ O, t.hi < cutEnd most C i) ∧ ∀ x, hasB O x = (decide (0 ≤ x) && decide (x < cutEnd most C i) && soB how a b x)
theorem MadeTo.zero {how most : Int} {a b : List SpanV} {C : List Int} (h : CutsOf most (a ++ b) C) : MadeTo how most a b C 0 [] := by
  obtain ⟨r, rfl⟩ := h.head
  refine ⟨trivial, fun t ht => by simp at ht, fun x => ?_⟩
  rw [hasB_nil]
  simp [cutEnd]
  omega
theorem MadeTo.skip {how most : Int} (hm : 0 ≤ most) {a b : List SpanV} {C : List Int} (h : CutsOf most (a ++ b) C) {i : Nat} {c : Int} (hc : C[i]? = some c) {O : List SpanV} (hO : MadeTo how most a b C i O) (hs : soB how a b c = false) : MadeTo how most a b C (i + 1) O := by
  obtain ⟨h1, h2, h3⟩ := hO
  have hlt := h.lt_end hm hc
  have e0 : cutEnd most C i = c := by unfold cutEnd; rw [hc]
  rw [e0] at h2 h3
  refine ⟨h1, fun t ht => by have := h2 t ht; omega, fun x => ?_⟩
  rw [h3]
  rcases Int.lt_or_le x c with hx | hx
  · have : x < cutEnd most C (i + 1) := by omega
    simp [hx, this]
  · rcases Int.lt_or_le x (cutEnd most C (i + 1)) with hx2 | hx2
    · rw [h.so hm how hc hx hx2, hs]; simp
    · have e1 : ¬ x < c := by omega
      have e2 : ¬ x < cutEnd most C (i + 1) := by omega
      simp [e1, e2]
theorem made_mem {how most : Int} (hm : 0 ≤ most) {a b : List SpanV} {C : List Int} (h : CutsOf most (a ++ b) C) {i : Nat} {c : Int} (hc : C[i]? = some c) (hs : soB how a b c = true) (hc0 : 0 ≤ c) (x : Int) :
    ((decide (0 ≤ x) && decide (x < c) && soB how a b x) || (decide (c ≤ x) && decide (x ≤ cutEnd most C (i + 1) - 1))) = (decide (0 ≤ x) && decide (x < cutEnd most C (i + 1)) && soB how a b x) := by
  have hlt := h.lt_end hm hc
  rcases Int.lt_or_le x c with hx | hx
  · have h1 : x < cutEnd most C (i + 1) := by omega
    have h2 : ¬ c ≤ x := by omega
    simp [hx, h1, h2]
  · have h2 : ¬ x < c := by omega
    rcases Int.lt_or_le x (cutEnd most C (i + 1)) with hx2 | hx2
    · have h3 : x ≤ cutEnd most C (i + 1) - 1 := by omega
      have h4 : 0 ≤ x := by omega
      rw [h.so hm how hc hx hx2, hs]
      simp [h2, hx, h3, hx2, h4]
    · have h3 : ¬ x ≤ cutEnd most C (i + 1) - 1 := by omega
      have h4 : ¬ x < cutEnd most C (i + 1) := by omega
      simp [h2, h3, h4]
theorem MadeTo.new {how most : Int} (hm : 0 ≤ most) {a b : List SpanV} {C : List Int} (h : CutsOf most (a ++ b) C) {i : Nat} {c : Int} (hc : C[i]? = some c) {O : List SpanV} (hO : MadeTo how most a b C i O) (hs : soB how a b c = true)
    (s : SpanV) (e1 : s.lo = c) (e2 : s.hi = cutEnd most C (i + 1) - 1) (hn : ∀ t ∈ O, t.hi + 1 ≠ c) : MadeTo how most a b C (i + 1) (O ++ [s]) := by
  obtain ⟨h1, h2, h3⟩ := hO
  have hlt := h.lt_end hm hc
  have hc0 := (h.2.1 c (List.mem_of_getElem? hc)).1
  have e0 : cutEnd most C i = c := by unfold cutEnd; rw [hc]
  rw [e0] at h2 h3
  refine ⟨NF.snoc.2 ⟨h1, by omega, fun t ht => by have := h2 t ht; have := hn t ht; omega⟩, fun t ht => ?_, fun x => ?_⟩
  · rcases List.mem_append.1 ht with ht | ht
    · have := h2 t ht; omega
    · obtain rfl := List.mem_singleton.1 ht; omega
  · rw [hasB_append, hasB_one, h3]
    have e : s.inB x = (decide (c ≤ x) && decide (x ≤ cutEnd most C (i + 1) - 1)) := by unfold SpanV.inB; rw [e1, e2]
    rw [e]
    exact made_mem hm h hc hs hc0 x
theorem MadeTo.more {how most : Int} (hm : 0 ≤ most) {a b : List SpanV} {C : List Int} (h : CutsOf most (a ++ b) C) {i : Nat} {c : Int} (hc : C[i]? = some c) {A : List SpanV} {t : SpanV} (hO : MadeTo how most a b C i (A ++ [t])) (hs : soB how a b c = true)
    (s : SpanV) (e1 : s.lo = t.lo) (e2 : s.hi = cutEnd most C (i + 1) - 1) (hn : t.hi + 1 = c) : MadeTo how most a b C (i + 1) (A ++ [s]) := by
  obtain ⟨h1, h2, h3⟩ := hO
  have hlt := h.lt_end hm hc
  have hc0 := (h.2.1 c (List.mem_of_getElem? hc)).1
  have e0 : cutEnd most C i = c := by unfold cutEnd; rw [hc]
  rw [e0] at h2 h3
  obtain ⟨k1, k2, k3⟩ := NF.snoc.1 h1
  refine ⟨NF.snoc.2 ⟨k1, by omega, fun u hu => by have := k3 u hu; omega⟩, fun u hu => ?_, fun x => ?_⟩
  · rcases List.mem_append.1 hu with hu | hu
    · have := h2 u (List.mem_append_left _ hu); omega
    · obtain rfl := List.mem_singleton.1 hu; omega
  · rw [← made_mem hm h hc hs hc0 x, ← h3, hasB_append, hasB_append, hasB_one, hasB_one, Bool.or_assoc]
    congr 1
    unfold SpanV.inB
    rw [e1, e2, Bool.eq_iff_iff]
    simp
    omega
theorem MadeTo.last {how most : Int} {a b : List SpanV} {C : List Int} {O : List SpanV} (hO : MadeTo how most a b C C.length O) : O = theSet (soP how most a b) := by
  obtain ⟨h1, _, h3⟩ := hO
  have e0 : cutEnd most C C.length = most + 1 := by unfold cutEnd; simp
  rw [e0] at h3
  symm
  refine theSet_eq h1 (fun x => ?_)
  rw [h3]
  unfold soP
  congr 2
  rw [Bool.eq_iff_iff]; simp; omega

/-- How many numbers there are. -/
def cnt (F : List SpanV) : Int := (F.map fun s => s.hi - s.lo + 1).sum
theorem cnt_append (A B : List SpanV) : cnt (A ++ B) = cnt A + cnt B := by simp [cnt]
theorem cnt_succ {F : List SpanV} {k : Nat} {s : SpanV} (h : F[k]? = some s) : cnt (F.take (k + 1)) = cnt (F.take k) + (s.hi - s.lo + 1) := by
  rw [List.take_add_one, h, cnt_append]; simp [cnt]
/-- The members below n. -/
def cntP (P : Int → Bool) (n : Nat) : Int := ((List.range n).countP fun x : Nat => P x : Nat)
theorem cntP_succ (P : Int → Bool) (n : Nat) : cntP P (n + 1) = cntP P n + (if P n then 1 else 0) := by
  unfold cntP
  rw [List.range_succ, List.countP_append]
  simp [List.countP_cons]
  split <;> simp
theorem cntP_one (s : SpanV) (hs : s.lo ≤ s.hi) : ∀ n : Nat, cntP s.inB n = if (n : Int) ≤ s.lo then 0 else if (n : Int) ≤ s.hi then n - s.lo else s.hi - s.lo + 1 := by
  intro n
  have := s.hlo
  induction n with
  | zero => simp [cntP]; omega
  | succ n ih =>
    rw [cntP_succ, ih]
    have e : (s.inB n = true) ↔ s.lo ≤ n ∧ (n : Int) ≤ s.hi := inB_iff
    by_cases h : s.inB n = true
    · rw [if_pos h]
      have := e.1 h
      repeat' split
      all_goals omega
    · rw [if_neg h]
      have h' : ¬ (s.lo ≤ n ∧ (n : Int) ≤ s.hi) := fun x => h (e.2 x)
      repeat' split
      all_goals omega
theorem cntP_add {P Q R : Int → Bool} (n : Nat) (h : ∀ x : Nat, x < n → R x = (P x || Q x) ∧ ¬ (P x = true ∧ Q x = true)) : cntP R n = cntP P n + cntP Q n := by
  induction n with
  | zero => simp [cntP]
  | succ n ih =>
    rw [cntP_succ, cntP_succ, cntP_succ, ih (fun x hx => h x (by omega))]
    obtain ⟨h1, h2⟩ := h n (by omega)
    rw [h1]
    cases hp : P n <;> cases hq : Q n <;> simp_all <;> omega
theorem cntP_le (P : Int → Bool) (n : Nat) : 0 ≤ cntP P n ∧ cntP P n ≤ n := by
  unfold cntP
  have := List.countP_le_length (p := fun x : Nat => P x) (l := List.range n)
  simp at this
  omega
theorem cntP_nil (n : Nat) : cntP (hasB []) n = 0 := by
  unfold cntP
  have : (List.range n).countP (fun x : Nat => hasB [] x) = 0 := by
    rw [List.countP_eq_zero]; intro x _; simp [hasB]
  rw [this]; rfl
theorem cnt_members {n : Nat} (hn : (n : Int) = 4294967296) : ∀ {F : List SpanV}, NF F → cnt F = cntP (hasB F) n
  | [], _ => (cntP_nil n).symm
  | s :: r, h => by
    have hs := s.hhi
    have h1 := cntP_one s h.1 n
    rw [if_neg (by have := h.1; omega), if_neg (by omega)] at h1
    have e : cnt (s :: r) = (s.hi - s.lo + 1) + cnt r := by simp [cnt]
    rw [e, cnt_members hn h.2.2, ← h1]
    symm
    refine cntP_add _ (fun x _ => ⟨rfl, ?_⟩)
    rintro ⟨h3, h4⟩
    obtain ⟨u, hu, h5, h6⟩ := hasB_iff.1 h4
    have := inB_iff.1 h3
    have := h.2.1 u hu
    omega
theorem big32 : ∃ n : Nat, (n : Int) = 4294967296 := ⟨4294967296, rfl⟩
theorem cnt_range {F : List SpanV} (h : NF F) : 0 ≤ cnt F ∧ cnt F ≤ 4294967296 := by
  obtain ⟨n, hn⟩ := big32
  rw [cnt_members hn h, ← hn]; exact cntP_le _ _
theorem cnt_take_le {F : List SpanV} (h : NF F) (k : Nat) : 0 ≤ cnt (F.take k) ∧ cnt (F.take k) ≤ 4294967296 := cnt_range (h.take k)

end Go.Proofs.YthgmmajoinkblaaDoor

/-
  The walks of spans.Has, and of the document's Has and so.
-/
namespace Go.Proofs.YthgmmajoinkblaaDoor
open Go Go.RowKit Go.Lib Go.Sort

theorem hasB_hit {L : List SpanV} {j : Nat} {s : SpanV} {x : Int} (h : L[j]? = some s) (h1 : s.lo ≤ x) (h2 : x ≤ s.hi) : hasB L x = true := hasB_iff.2 ⟨s, List.mem_of_getElem? h, h1, h2⟩

end Go.Proofs.YthgmmajoinkblaaDoor
