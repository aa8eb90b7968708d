/-
  Joined texts: SpMath3, SpText2, Ft0, RtText, Rt1.
-/
import Derived.Test.YtlhafehhkjjchaaGreatDoorMRoutesOrder15
import Derived.Lib.JoinLaws
import Derived.Test.YtlhafehhkjjchaaGreatDoorMRoutesOrder2
/-
  Sets of numbers as spans: the merging of a sorted list; what is in both; what is in none. No program in sight.
-/
namespace Go.Proofs.YtlhafehhkjjchaaGreatDoor

theorem hasB_nil (x : Int) : hasB [] x = false := rfl
theorem hasB_take_succ {L : List SpanV} {j : Nat} {s : SpanV} (h : L[j]? = some s) (x : Int) : hasB (L.take (j + 1)) x = (hasB (L.take j) x || s.inB x) := by
  rw [List.take_add_one, h, hasB_append]
  show _ = (_ || s.inB x)
  congr 1
  simp [hasB]
/-- One step of the merging. -/
def mstep (O : List SpanV) (s : SpanV) : List SpanV :=
  match O.getLast? with
  | none => [s]
  | some t => if s.lo ≤ t.hi + 1 then O.dropLast ++ [t.reach s] else O ++ [s]
theorem mstep_nil (s : SpanV) : mstep [] s = [s] := rfl
theorem mstep_in {A : List SpanV} {t s : SpanV} (h : s.lo ≤ t.hi + 1) : mstep (A ++ [t]) s = A ++ [t.reach s] := by
  simp [mstep, h]
theorem mstep_new {A : List SpanV} {t s : SpanV} (h : ¬ s.lo ≤ t.hi + 1) : mstep (A ++ [t]) s = A ++ [t] ++ [s] := by
  simp [mstep, h]
def mfold (L : List SpanV) : List SpanV := L.foldl mstep []
theorem mfold_succ {L : List SpanV} {j : Nat} {s : SpanV} (h : L[j]? = some s) : mfold (L.take (j + 1)) = mstep (mfold (L.take j)) s := by
  rw [List.take_add_one, h]
  simp [mfold, List.foldl_append]
theorem snoc_cases {α : Type} (O : List α) : O = [] ∨ ∃ A t, O = A ++ [t] := by
  rcases List.eq_nil_or_concat O with h | ⟨A, t, h⟩
  · exact .inl h
  · exact .inr ⟨A, t, by simpa using h⟩
theorem mfold_ok {L : List SpanV} (hs : L.Pairwise (fun x y => x.lo ≤ y.lo)) (hv : ∀ s ∈ L, s.lo ≤ s.hi) :
    ∀ j, j ≤ L.length → NF (mfold (L.take j)) ∧ (∀ x, hasB (mfold (L.take j)) x = hasB (L.take j) x) ∧ ∀ t ∈ mfold (L.take j), ∀ s ∈ L.drop j, t.lo ≤ s.lo := by
  intro j
  induction j with
  | zero => intro _; exact ⟨trivial, fun x => rfl, fun t ht => by simp [mfold] at ht⟩
  | succ j ih =>
    intro hj
    obtain ⟨h1, h2, h3⟩ := ih (by omega)
    obtain ⟨s, hsj⟩ : ∃ s, L[j]? = some s := ⟨_, List.getElem?_eq_getElem (by omega)⟩
    have hsm : s ∈ L := List.mem_of_getElem? hsj
    have hd : L.drop j = s :: L.drop (j + 1) := by
      obtain ⟨hj', e⟩ := List.getElem?_eq_some_iff.1 hsj
      rw [List.drop_eq_getElem_cons hj', e]
    have hsrest : ∀ u ∈ L.drop (j + 1), s.lo ≤ u.lo := by
      have := hs.sublist (List.drop_sublist j L)
      rw [hd] at this
      exact (List.pairwise_cons.1 this).1
    have h3' : ∀ t ∈ mfold (L.take j), t.lo ≤ s.lo := fun t ht => h3 t ht s (by rw [hd]; exact List.mem_cons_self ..)
    have h3'' : ∀ t ∈ mfold (L.take j), ∀ u ∈ L.drop (j + 1), t.lo ≤ u.lo := fun t ht u hu => h3 t ht u (by rw [hd]; exact List.mem_cons_of_mem _ hu)
    rw [mfold_succ hsj]
    have hmem : ∀ x, hasB (L.take (j + 1)) x = (hasB (mfold (L.take j)) x || s.inB x) := fun x => by rw [hasB_take_succ hsj, h2 x]
    generalize hO : mfold (L.take j) = O at *
    rcases snoc_cases O with rfl | ⟨A, t, rfl⟩
    · rw [mstep_nil]
      refine ⟨⟨hv s hsm, fun t ht => by simp at ht, trivial⟩, fun x => by rw [hmem, hasB_one, hasB_nil, Bool.false_or], fun t ht u hu => ?_⟩
      obtain rfl := List.mem_singleton.1 ht
      exact hsrest u hu
    · have htl : t.lo ≤ s.lo := h3' t (List.mem_append_right _ (List.mem_singleton.2 rfl))
      by_cases hm : s.lo ≤ t.hi + 1
      · rw [mstep_in hm]
        obtain ⟨k1, k2⟩ := merge_in h1 (hv s hsm) htl hm
        refine ⟨k1, fun x => by rw [k2, hmem], fun u hu v hv' => ?_⟩
        rcases List.mem_append.1 hu with hu | hu
        · exact h3'' u (List.mem_append_left _ hu) v hv'
        · obtain rfl := List.mem_singleton.1 hu
          exact h3'' t (List.mem_append_right _ (List.mem_singleton.2 rfl)) v hv'
      · rw [mstep_new hm]
        refine ⟨merge_new h1 (hv s hsm) (by omega), fun x => by rw [hasB_append, hasB_one, hmem], fun u hu v hv' => ?_⟩
        rcases List.mem_append.1 hu with hu | hu
        · exact h3'' u hu v hv'
        · obtain rfl := List.mem_singleton.1 hu
          exact hsrest v hv'
/-- The form of a list: what the program's three steps make is the list in normal form with the same members. -/
def okS (s : SpanV) : Bool := decide (s.lo ≤ s.hi)
theorem hasB_filter (L : List SpanV) (x : Int) : hasB (L.filter okS) x = hasB L x := by
  rw [Bool.eq_iff_iff, hasB_iff, hasB_iff]
  constructor
  · rintro ⟨s, hs, h1⟩; exact ⟨s, (List.mem_filter.1 hs).1, h1⟩
  · rintro ⟨s, hs, h1, h2⟩; exact ⟨s, List.mem_filter.2 ⟨hs, by simp [okS]; omega⟩, h1, h2⟩
noncomputable def formOf (L : List SpanV) : List SpanV := theSet (hasB L)
theorem formOf_eq {L L' : List SpanV} (hp : L'.Perm (L.filter okS)) (hs : L'.Pairwise (fun x y => x.lo ≤ y.lo)) :
    formOf L = mfold L' ∧ NF (mfold L') ∧ ∀ x, hasB (mfold L') x = hasB L x := by
  have hv : ∀ s ∈ L', s.lo ≤ s.hi := fun s h => by
    have := (List.mem_filter.1 (hp.mem_iff.1 h)).2
    simpa [okS] using this
  obtain ⟨h1, h2, _⟩ := mfold_ok hs hv L'.length (Nat.le_refl _)
  rw [List.take_length] at h1 h2
  have h3 : ∀ x, hasB (mfold L') x = hasB L x := fun x => by rw [h2, hasB_perm hp, hasB_filter]
  exact ⟨theSet_eq h1 h3, h1, h3⟩
theorem formOf_ok (L : List SpanV) : NF (formOf L) ∧ ∀ x, hasB (formOf L) x = hasB L x := by
  have hp : ((L.filter okS).mergeSort (fun x y => decide (x.lo ≤ y.lo))).Perm (L.filter okS) := List.mergeSort_perm _ _
  have hs : ((L.filter okS).mergeSort (fun x y => decide (x.lo ≤ y.lo))).Pairwise (fun x y => x.lo ≤ y.lo) := by
    have := List.pairwise_mergeSort (le := fun (x y : SpanV) => decide (x.lo ≤ y.lo)) (fun a b c h1 h2 => by simp at *; omega) (fun a b => by simp; omega) (L.filter okS)
    exact this.imp (fun h => by simpa using h)
  obtain ⟨h1, h2, h3⟩ := formOf_eq hp hs
  rw [h1]
  exact ⟨h2, h3⟩
theorem theSet_form {P : Int → Bool} {L : List SpanV} (h : ∀ x, hasB L x = P x) : theSet P = formOf L := by
  obtain ⟨h1, h2⟩ := formOf_ok L
  exact theSet_eq h1 (fun x => by rw [h2, h])
theorem mfold_len (L : List SpanV) : ∀ j, (mfold (L.take j)).length ≤ j := by
  intro j
  induction j with
  | zero => simp [mfold]
  | succ j ih =>
    rcases Nat.lt_or_ge j L.length with h | h
    · rw [mfold_succ (List.getElem?_eq_getElem h)]
      generalize mfold (L.take j) = O at *
      rcases snoc_cases O with rfl | ⟨A, t, rfl⟩
      · simp [mstep_nil]
      · by_cases hm : (L[j]).lo ≤ t.hi + 1
        · rw [mstep_in hm]; simp at *; omega
        · rw [mstep_new hm]; simp at *; omega
    · have e : L.take (j + 1) = L.take j := by rw [List.take_of_length_le h, List.take_of_length_le (by omega)]
      rw [e]; omega
theorem formOf_len (L : List SpanV) : (formOf L).length ≤ L.length := by
  have hp : ((L.filter okS).mergeSort (fun x y => decide (x.lo ≤ y.lo))).Perm (L.filter okS) := List.mergeSort_perm _ _
  have hs : ((L.filter okS).mergeSort (fun x y => decide (x.lo ≤ y.lo))).Pairwise (fun x y => x.lo ≤ y.lo) := by
    have := List.pairwise_mergeSort (le := fun (x y : SpanV) => decide (x.lo ≤ y.lo)) (fun a b c h1 h2 => by simp at *; omega) (fun a b => by simp; omega) (L.filter okS)
    exact this.imp (fun h => by simpa using h)
  rw [(formOf_eq hp hs).1]
  generalize hM : (L.filter okS).mergeSort (fun x y => decide (x.lo ≤ y.lo)) = M at *
  have := mfold_len M M.length
  rw [List.take_length] at this
  have := hp.length_eq
  have := List.length_filter_le okS L
  omega

/-- What two spans have in common. -/
def meet1 (s t : SpanV) : List SpanV := if max s.lo t.lo ≤ min s.hi t.hi then [⟨max s.lo t.lo, min s.hi t.hi, by have := s.hlo; have := t.hlo; omega, by have := s.hhi; have := t.hhi; omega⟩] else []
theorem hasB_meet1 (s t : SpanV) (x : Int) : hasB (meet1 s t) x = (s.inB x && t.inB x) := by
  unfold meet1
  rw [Bool.eq_iff_iff, Bool.and_eq_true, inB_iff, inB_iff]
  split
  · rw [hasB_one, inB_iff]; show (max s.lo t.lo ≤ x ∧ x ≤ min s.hi t.hi) ↔ _; omega
  · rw [hasB_nil]; simp; omega
def meetRow (s : SpanV) (B : List SpanV) : List SpanV := B.flatMap (meet1 s)
def meetAll (A B : List SpanV) : List SpanV := A.flatMap (fun s => meetRow s B)
theorem hasB_flatMap {α : Type} (f : α → List SpanV) (A : List α) (x : Int) : hasB (A.flatMap f) x = A.any fun a => hasB (f a) x := by
  induction A with
  | nil => rfl
  | cons a A ih => rw [List.flatMap_cons, hasB_append, ih, List.any_cons]
theorem hasB_meetAll (A B : List SpanV) (x : Int) : hasB (meetAll A B) x = (hasB A x && hasB B x) := by
  unfold meetAll meetRow
  rw [hasB_flatMap]
  simp only [hasB_flatMap, hasB_meet1]
  rw [Bool.eq_iff_iff]
  simp [hasB]
  constructor
  · rintro ⟨s, hs, t, ht, h1, h2⟩; exact ⟨⟨s, hs, h1⟩, t, ht, h2⟩
  · rintro ⟨⟨s, hs, h1⟩, t, ht, h2⟩; exact ⟨s, hs, t, ht, h1, h2⟩
theorem meetRow_succ {s t : SpanV} {B : List SpanV} {k : Nat} (h : B[k]? = some t) : meetRow s (B.take (k + 1)) = meetRow s (B.take k) ++ meet1 s t := by
  unfold meetRow
  rw [List.take_add_one, h, List.flatMap_append]
  simp
theorem meetAll_succ {s : SpanV} {A B : List SpanV} {k : Nat} (h : A[k]? = some s) : meetAll (A.take (k + 1)) B = meetAll (A.take k) B ++ meetRow s B := by
  unfold meetAll
  rw [List.take_add_one, h, List.flatMap_append]
  simp
theorem meet1_len (s t : SpanV) : (meet1 s t).length ≤ 1 := by unfold meet1; split <;> simp
theorem meetRow_len (s : SpanV) (B : List SpanV) : (meetRow s B).length ≤ B.length := by
  induction B with
  | nil => simp [meetRow]
  | cons t B ih =>
    have := meet1_len s t
    simp only [meetRow, List.flatMap_cons, List.length_append, List.length_cons] at *
    omega
theorem meetAll_len (A B : List SpanV) : (meetAll A B).length ≤ A.length * B.length := by
  induction A with
  | nil => simp [meetAll]
  | cons s A ih =>
    have := meetRow_len s B
    simp only [meetAll, List.flatMap_cons, List.length_append, List.length_cons, Nat.succ_mul] at *
    omega

/-- What is not in a list, up to most: step by step over its form. -/
def gapOf (at' most : Int) (s : SpanV) : List SpanV :=
  if h : 0 ≤ at' ∧ at' < s.lo ∧ at' ≤ most ∧ most < 4294967296 then [⟨at', min (s.lo - 1) most, by omega, by omega⟩] else []
def natAt (F : List SpanV) : Int := match F.getLast? with | none => 0 | some s => s.hi + 1
theorem natAt_succ {F : List SpanV} {k : Nat} {s : SpanV} (h : F[k]? = some s) : natAt (F.take (k + 1)) = s.hi + 1 := by
  rw [List.take_add_one, h]
  simp [natAt]
theorem natAt_range {F : List SpanV} : 0 ≤ natAt F ∧ natAt F ≤ 4294967296 := by
  rcases snoc_cases F with rfl | ⟨A, t, rfl⟩
  · simp [natAt]
  · simp [natAt]; have := t.hhi; omega
theorem hasB_natAt {F : List SpanV} (h : NF F) {x : Int} (hx : hasB F x = true) : x < natAt F := by
  rcases snoc_cases F with rfl | ⟨A, t, rfl⟩
  · simp [hasB] at hx
  · obtain ⟨h1, h2, h3⟩ := NF.snoc.1 h
    obtain ⟨s, hs, hx1, hx2⟩ := hasB_iff.1 hx
    have e : natAt (A ++ [t]) = t.hi + 1 := by simp [natAt]
    rw [e]
    rcases List.mem_append.1 hs with hs | hs
    · have := h3 s hs; omega
    · obtain rfl := List.mem_singleton.1 hs; omega
theorem NF.take {F : List SpanV} (h : NF F) : ∀ k, NF (F.take k) := by
  induction F with
  | nil => intro k; simp [NF]
  | cons s r ih =>
    intro k
    cases k with
    | zero => trivial
    | succ k => exact ⟨h.1, fun t ht => h.2.1 t (List.mem_of_mem_take ht), ih h.2.2 k⟩
theorem NF.at_le {F : List SpanV} (h : NF F) {k : Nat} {s : SpanV} (hk : F[k]? = some s) : natAt (F.take k) ≤ s.lo := by
  have h1 := h.take (k + 1)
  rw [List.take_add_one, hk] at h1
  obtain ⟨_, h3, h4⟩ := NF.snoc.1 (show NF (F.take k ++ [s]) from h1)
  rcases snoc_cases (F.take k) with e | ⟨A, t, e⟩
  · rw [e]; exact s.hlo.1
  · rw [e] at h4 ⊢
    have := h4 t (List.mem_append_right _ (List.mem_singleton.2 rfl))
    simp [natAt]; omega
def notTo (most : Int) (F : List SpanV) : Nat → List SpanV
  | 0 => []
  | k + 1 => notTo most F k ++ (match F[k]? with | some s => gapOf (natAt (F.take k)) most s | none => [])
theorem notTo_succ {most : Int} {F : List SpanV} {k : Nat} {s : SpanV} (h : F[k]? = some s) : notTo most F (k + 1) = notTo most F k ++ gapOf (natAt (F.take k)) most s := by
  rw [notTo, h]
def lastOf (at' most : Int) : List SpanV := if h : 0 ≤ at' ∧ at' ≤ most ∧ most < 4294967296 then [⟨at', most, by omega, by omega⟩] else []
def notAll (most : Int) (F : List SpanV) : List SpanV := notTo most F F.length ++ lastOf (natAt F) most
theorem gapOf_len (a m : Int) (s : SpanV) : (gapOf a m s).length ≤ 1 := by unfold gapOf; split <;> simp
theorem notTo_len (most : Int) (F : List SpanV) (k : Nat) : (notTo most F k).length ≤ k := by
  induction k with
  | zero => simp [notTo]
  | succ k ih =>
    rw [notTo, List.length_append]
    split
    · have := gapOf_len (natAt (F.take k)) most ‹_›; omega
    · simp; omega
/-- What is in none of a list, up to most. -/
def notP (most : Int) (L : List SpanV) (x : Int) : Bool := decide (0 ≤ x) && decide (x ≤ most) && !hasB L x
theorem notTo_ok {most : Int} {F : List SpanV} (hF : NF F) (hm : 0 ≤ most ∧ most < 4294967296) : ∀ k, k ≤ F.length →
    NF (notTo most F k) ∧ (∀ a ∈ notTo most F k, a.hi + 1 < natAt (F.take k)) ∧ ∀ x, hasB (notTo most F k) x = (notP most (F.take k) x && decide (x < natAt (F.take k))) := by
  intro k
  induction k with
  | zero =>
    intro _
    refine ⟨trivial, fun a ha => by simp [notTo] at ha, fun x => ?_⟩
    by_cases h0 : 0 ≤ x
    · have h1 : ¬ x < 0 := by omega
      simp [notTo, hasB_nil, natAt, h1]
    · simp [notTo, hasB_nil, notP, natAt, h0]
  | succ k ih =>
    intro hk
    obtain ⟨h1, h2, h3⟩ := ih (by omega)
    obtain ⟨s, hs⟩ : ∃ s, F[k]? = some s := ⟨_, List.getElem?_eq_getElem (by omega)⟩
    have hsv : s.lo ≤ s.hi := hF.ok s (List.mem_of_getElem? hs)
    have hat := hF.at_le hs
    have hat0 := (natAt_range (F := F.take k)).1
    rw [notTo_succ hs, natAt_succ hs]
    have hin : ∀ x, hasB (F.take k) x = true → x < natAt (F.take k) := fun x hx => hasB_natAt (hF.take k) hx
    generalize natAt (F.take k) = A at *
    have hmem : ∀ x, hasB (notTo most F k ++ gapOf A most s) x = (notP most (F.take (k + 1)) x && decide (x < s.hi + 1)) := by
      intro x
      have hin := hin x
      rw [hasB_append, h3, notP, notP, hasB_take_succ hs]
      have hg : hasB (gapOf A most s) x = (decide (A ≤ x) && decide (x < s.lo) && decide (x ≤ most)) := by
        unfold gapOf
        split
        · rw [hasB_one, Bool.eq_iff_iff, inB_iff]
          simp
          show A ≤ x ∧ x ≤ min (s.lo - 1) most ↔ _
          omega
        · rw [hasB_nil]
          simp
          omega
      rw [hg]
      have hi : s.inB x = (decide (s.lo ≤ x) && decide (x ≤ s.hi)) := rfl
      rw [hi]
      cases hx : hasB (F.take k) x with
      | true =>
        have := hin hx
        simp
        omega
      | false =>
        rw [Bool.eq_iff_iff]
        simp
        omega
    refine ⟨?_, ?_, hmem⟩
    · by_cases hg : 0 ≤ A ∧ A < s.lo ∧ A ≤ most ∧ most < 4294967296
      · rw [gapOf, dif_pos hg]
        refine NF.snoc.2 ⟨h1, ?_, fun a ha => h2 a ha⟩
        show A ≤ min (s.lo - 1) most
        omega
      · rw [gapOf, dif_neg hg, List.append_nil]
        exact h1
    · intro a ha
      rcases List.mem_append.1 ha with ha | ha
      · have := h2 a ha; omega
      · unfold gapOf at ha
        split at ha
        · obtain rfl := List.mem_singleton.1 ha
          show min (s.lo - 1) most + 1 < _
          omega
        · simp at ha
theorem notAll_ok {most : Int} {F : List SpanV} (hF : NF F) (hm : 0 ≤ most ∧ most < 4294967296) : NF (notAll most F) ∧ ∀ x, hasB (notAll most F) x = notP most F x := by
  obtain ⟨h1, h2, h3⟩ := notTo_ok hF hm F.length (Nat.le_refl _)
  rw [List.take_length] at h2 h3
  have hat0 := (natAt_range (F := F)).1
  have hin : ∀ x, hasB F x = true → x < natAt F := fun x hx => hasB_natAt hF hx
  unfold notAll
  generalize natAt F = A at *
  refine ⟨?_, fun x => ?_⟩
  · unfold lastOf
    split
    · rename_i hg
      exact NF.snoc.2 ⟨h1, hg.2.1, fun a ha => h2 a ha⟩
    · rw [List.append_nil]; exact h1
  · rw [hasB_append, h3]
    have hg : hasB (lastOf A most) x = (decide (A ≤ x) && decide (x ≤ most)) := by
      unfold lastOf
      split
      · rw [hasB_one, Bool.eq_iff_iff, inB_iff]; simp
      · rw [hasB_nil]; simp; intro _; omega
    rw [hg]
    have hin := hin x
    unfold notP
    cases hx : hasB F x with
    | true => have := hin hx; simp; omega
    | false => rw [Bool.eq_iff_iff]; simp; omega
theorem notP_form (most : Int) (L : List SpanV) : notP most (formOf L) = notP most L := by
  funext x; unfold notP; rw [(formOf_ok L).2]
theorem theSet_not {most : Int} (hm : 0 ≤ most ∧ most < 4294967296) (L : List SpanV) : theSet (notP most L) = notAll most (formOf L) := by
  obtain ⟨h1, h2⟩ := notAll_ok (formOf_ok L).1 hm
  exact theSet_eq h1 (fun x => by rw [h2, notP_form])

end Go.Proofs.YtlhafehhkjjchaaGreatDoor

/-
  What is read of the text of a set, as one function: no program in sight.
-/
namespace Go.Proofs.YtlhafehhkjjchaaGreatDoor
open Go Go.RowKit Go.Sort

theorem joinC_join : ∀ (L : List (List UInt8)), joinC L = Lib.join L [44]
  | [] => rfl
  | [x] => (Lib.join_one x [44]).symm
  | x :: y :: r => by
    rw [joinC, joinC_join (y :: r), Lib.join_cons, Lib.join_cons]
    simp [Lib.joinTail]
theorem joinC_snoc : ∀ (L : List (List UInt8)) (x : List UInt8), joinC (L ++ [x]) = if L = [] then x else joinC L ++ 44 :: x
  | [], x => rfl
  | [y], x => by simp [joinC]
  | y :: z :: r, x => by
    have h := joinC_snoc (z :: r) x
    rw [if_neg (by simp)] at h ⊢
    rw [List.cons_append, List.cons_append, joinC, ← List.cons_append, h]
    simp [joinC]
/-- The span of two numbers. -/
def spOf (x : Nat × Nat) : SpanV := if h : x.1 ≤ x.2 ∧ x.2 < 4294967296 then spanOf x h else default
theorem spOf_ok {x : Nat × Nat} (h : x.1 ≤ x.2 ∧ x.2 < 4294967296) : (spOf x).two = x ∧ (spOf x).lo = x.1 ∧ (spOf x).hi = x.2 := by
  unfold spOf
  rw [dif_pos h]
  exact ⟨spanOf_two x h, rfl, rfl⟩
theorem spOf_two {s : SpanV} (h : s.lo ≤ s.hi) : spOf s.two = s := by
  have h1 := s.hlo
  have h2 := s.hhi
  have h3 : s.two.1 ≤ s.two.2 ∧ s.two.2 < 4294967296 := by unfold SpanV.two; dsimp only; omega
  exact two_inj (spOf_ok h3).1
theorem spOf_map {L : List SpanV} (h : ∀ s ∈ L, s.lo ≤ s.hi) : (L.map SpanV.two).map spOf = L := by
  induction L with
  | nil => rfl
  | cons s r ih =>
    rw [List.map_cons, List.map_cons, spOf_two (h s (by simp)), ih (fun x hx => h x (List.mem_cons_of_mem _ hx))]
/-- What is read of a text. -/
noncomputable def setP (s : List UInt8) : Option (List SpanV) :=
  if s = [45] then some [] else match readL (pieces 44 s) with
    | some l => if setT (formOf (l.map spOf)) = s then some (l.map spOf) else none
    | none => none
noncomputable def setL (s : List UInt8) : List SpanV := (setP s).getD []
noncomputable def setE (s : List UInt8) : Int := if (setP s).isSome then 0 else 4
theorem set_none {s : List UInt8} (h : setP s = none) : setL s = [] ∧ setE s = 4 := by unfold setL setE; rw [h]; exact ⟨rfl, rfl⟩
theorem set_some {s : List UInt8} {L : List SpanV} (h : setP s = some L) : setL s = L ∧ setE s = 0 := by unfold setL setE; rw [h]; exact ⟨rfl, rfl⟩
theorem setP_dash : setP [45] = some [] := by unfold setP; rw [if_pos rfl]
theorem setP_bad {s : List UInt8} (hs : s ≠ [45]) (h : readL (pieces 44 s) = none) : setP s = none := by unfold setP; rw [if_neg hs, h]
theorem setP_ne {s : List UInt8} {L : List SpanV} (hs : s ≠ [45]) (h : readL (pieces 44 s) = some (L.map SpanV.two)) (hL : ∀ x ∈ L, x.lo ≤ x.hi) (ht : setT (formOf L) ≠ s) : setP s = none := by
  unfold setP
  rw [if_neg hs, h]
  dsimp only
  rw [spOf_map hL, if_neg ht]
theorem setP_yes {s : List UInt8} {L : List SpanV} (hs : s ≠ [45]) (h : readL (pieces 44 s) = some (L.map SpanV.two)) (hL : ∀ x ∈ L, x.lo ≤ x.hi) (ht : setT (formOf L) = s) : setP s = some L := by
  unfold setP
  rw [if_neg hs, h]
  dsimp only
  rw [spOf_map hL, if_pos ht]
theorem formOf_NF (L : List SpanV) : NF (formOf L) := (formOf_ok L).1
theorem formOf_nil : formOf [] = [] := theSet_eq trivial (fun _ => rfl)
/-- A list that was read is in its form, and the text is its. -/
theorem setP_form {s : List UInt8} {L : List SpanV} (h : setP s = some L) : formOf L = L ∧ setT L = s := by
  unfold setP at h
  split at h
  · rename_i hs
    injection h with h
    subst h
    exact ⟨formOf_nil, by rw [hs]; rfl⟩
  · rename_i hs
    split at h
    · rename_i l hl
      split at h
      · rename_i ht
        injection h with h
        obtain ⟨M, hM, hk⟩ := readL_spans hl
        have e : l.map spOf = M := by rw [hM, spOf_map hk]
        rw [e] at ht h
        subst h
        rw [hM] at hl
        have := read_form hs hl (fun x hx => (formOf_NF M).ok x hx) ht
        exact ⟨this.symm, by rw [← this] at ht; exact ht⟩
      · cases h
    · cases h
theorem setT_ne {F : List SpanV} (h : F ≠ []) (hF : ∀ x ∈ F, x.lo ≤ x.hi) : setT F ≠ [45] := by
  intro e
  have h1 := setT_pieces h
  rw [e] at h1
  obtain ⟨s, r, rfl⟩ := List.exists_cons_of_ne_nil h
  rw [pieces_none (by decide), List.map_cons] at h1
  injection h1 with h1 _
  have h2 := wordO_t (hF s (by simp))
  rw [← h1] at h2
  have h3 : wordO [45] = none := by decide
  rw [h3] at h2
  cases h2
/-- The text of a set in its form is read to it. -/
theorem setP_text {F : List SpanV} (hn : NF F) (hf : formOf F = F) : setP (setT F) = some F := by
  by_cases h : F = []
  · subst h; exact setP_dash
  · exact setP_yes (setT_ne h hn.ok) (read_back h hn.ok) hn.ok (by rw [hf])
/-- What the document's words refuse, the program refuses. -/
theorem setP_badD {s : List UInt8} (hs : s ≠ [45]) (h : readD (pieces 44 s) = none) : setP s = none := by
  cases e : setP s with
  | none => rfl
  | some L =>
    obtain ⟨h1, h2⟩ := setP_form e
    have hn : NF L := by rw [← h1]; exact formOf_NF L
    have hne : L ≠ [] := fun e => hs (by rw [← h2, e]; rfl)
    rw [← h2, setT_pieces hne, readD_t L hn.ok] at h
    cases h
theorem setL_NF (s : List UInt8) : formOf (setL s) = setL s := by
  cases e : setP s with
  | none => rw [(set_none e).1]; exact formOf_nil
  | some L => rw [(set_some e).1]; exact (setP_form e).1
/-- How far the words have been read. -/
def RInv (rd : List (List UInt8) → Option (List (Nat × Nat))) (ws rest : List (List UInt8)) (L : List SpanV) : Prop := rd ws = (rd rest).map fun r => L.map SpanV.two ++ r
theorem rinv_start (rd) (ws : List (List UInt8)) : RInv rd ws ws [] := by
  unfold RInv
  cases rd ws <;> simp
theorem rinvL_bad {ws r : List (List UInt8)} {w : List UInt8} {L : List SpanV} (h : RInv readL ws (w :: r) L) (hw : wordO w = none) : readL ws = none := by
  unfold RInv at h
  rw [h, readL, hw]
  rfl
theorem rinvL_next {ws r : List (List UInt8)} {w : List UInt8} {L : List SpanV} {x : Nat × Nat} (h : RInv readL ws (w :: r) L) (hw : wordO w = some x) : RInv readL ws r (L ++ [spOf x]) := by
  unfold RInv at *
  rw [h, readL, hw]
  have hx := (spOf_ok (wordO_ok hw)).1
  cases readL r with
  | none => rfl
  | some l => simp [hx]
theorem rinvD_bad {ws r : List (List UInt8)} {w : List UInt8} {L : List SpanV} (h : RInv readD ws (w :: r) L) (hw : wordD w = none) : readD ws = none := by
  unfold RInv at h
  rw [h, readD, hw]
  rfl
theorem rinvD_next {ws r : List (List UInt8)} {w : List UInt8} {L : List SpanV} {x : Nat × Nat} (h : RInv readD ws (w :: r) L) (hw : wordD w = some x) : RInv readD ws r (L ++ [spOf x]) := by
  unfold RInv at *
  rw [h, readD, hw]
  have hx := (spOf_ok (wordO_ok (wordD_O hw))).1
  cases readD r with
  | none => rfl
  | some l => simp [hx]
theorem rinvL_end {ws : List (List UInt8)} {L : List SpanV} (h : RInv readL ws [] L) : readL ws = some (L.map SpanV.two) := by
  unfold RInv at h
  rw [h]
  simp [readL]
theorem rinvD_end {ws : List (List UInt8)} {L : List SpanV} (h : RInv readD ws [] L) : readD ws = some (L.map SpanV.two) := by
  unfold RInv at h
  rw [h]
  simp [readD]
theorem read_ok {ws : List (List UInt8)} {L : List SpanV} (h : readL ws = some (L.map SpanV.two)) : ∀ s ∈ L, s.lo ≤ s.hi := by
  obtain ⟨M, hM, hk⟩ := readL_spans h
  rw [map_two_inj hM]
  exact hk
/-- A span's text as the program puts it together. -/
def tB (s : SpanV) : ByteArray := ⟨s.t.toArray⟩
theorem dec32 {n : Nat} (h : n < 4294967296) : (Lib.decDigits n).length ≤ 10 := by
  have : ∀ k n : Nat, n < 10 ^ (k + 1) → (Lib.decDigits n).length ≤ k + 1 := by
    intro k
    induction k with
    | zero => intro n h; rw [decDigits_small (by simpa using h)]; simp
    | succ k ih =>
      intro n h
      by_cases h9 : n < 10
      · rw [decDigits_small h9]; simp
      · rw [decDigits_big h9, List.length_append]
        have := ih (n / 10) (by rw [Nat.pow_succ] at h; omega)
        simp; omega
  exact this 9 n (Nat.lt_of_lt_of_le h (by decide))
theorem t_len (s : SpanV) : s.t.length ≤ 21 := by
  have := s.hlo
  have := s.hhi
  have h1 := dec32 (n := s.lo.toNat) (by omega)
  have h2 := dec32 (n := s.hi.toNat) (by omega)
  unfold SpanV.t
  split
  · omega
  · simp; omega
theorem t_ne (s : SpanV) : s.t ≠ [] := by
  unfold SpanV.t
  split
  · exact decDigits_ne_nil _
  · simp
theorem joinC_len : ∀ (F : List SpanV), (joinC (F.map SpanV.t)).length ≤ 22 * F.length
  | [] => by simp [joinC]
  | [s] => by have := t_len s; simp [joinC]; omega
  | s :: u :: r => by
    have h1 := t_len s
    have h2 := joinC_len (u :: r)
    simp only [List.map_cons, joinC, List.length_append, List.length_cons] at *
    omega
theorem setT_cons {F : List SpanV} (h : F ≠ []) : setT F = joinC (F.map SpanV.t) := by unfold setT; rw [if_neg h]
theorem joinC_ne {F : List SpanV} (h : F ≠ []) : joinC (F.map SpanV.t) ≠ [] := by
  match F, h with
  | [s], _ => exact t_ne s
  | s :: u :: r, _ => simp [joinC]
theorem setT_len (F : List SpanV) : (setT F).length ≤ 22 * F.length + 1 := by
  by_cases h : F = []
  · subst h; decide
  · rw [setT_cons h]; have := joinC_len F; omega
end Go.Proofs.YtlhafehhkjjchaaGreatDoor

/-
  Walks over the filter's layer: a span's text; and what the walk of a rule's text needs.
-/
namespace Go.Proofs.YtlhafehhkjjchaaGreatDoor
open Go Go.RowKit Go.Sort

@[reducible] def StrR (f : FuncId) (args : Array Value) (t : ByteArray) (W : World) : Prop := ∀ d os, Calls Tryz.prog f args (grow (redrawn W d) os) fun e w' => e = .returned (.string t) ∧ Below (grow (redrawn W d) os).heap.size (grow (redrawn W d) os) w'
theorem dec_size5 {n : Int} (h : n < 4294967296) : (⟨(Lib.decDigits n.toNat).toArray⟩ : ByteArray).size ≤ 10 := by
  show (Lib.decDigits n.toNat).toArray.size ≤ 10
  have h1 := dec32 (n := n.toNat) (by omega)
  simpa using h1
theorem portT_size {lo hi : Int} (h1 : lo < 4294967296) (h2 : hi < 4294967296) : (⟨(portT lo hi).toArray⟩ : ByteArray).size ≤ 21 := by
  show (portT lo hi).toArray.size ≤ 21
  have k1 := dec32 (n := lo.toNat) (by omega)
  have k2 := dec32 (n := hi.toNat) (by omega)
  unfold portT
  simp
  omega
theorem prefI_any (a n : Int) (ha : 0 ≤ a ∧ a < 4294967296) (h0 : -9223372036854775808 ≤ n) (h1 : n ≤ 9223372036854775807) (w : World) (hE : Env w) :
    Calls Tryz.prog 27 #[.agg #[.int .u32 a, .int .i64 n]] w fun e w' => e = .returned (.string ⟨(prefT a n).toArray⟩) ∧ Below w.heap.size w w' := by
  obtain ⟨a, rfl⟩ := Int.eq_ofNat_of_zero_le ha.1
  have h := prefixText_any a n (by omega) h0 h1 w hE
  have e : (⟨(prefT (a : Int) n).toArray⟩ : ByteArray) = textP a n := byte_ext (by simp [prefT])
  rw [e]
  exact h
theorem rule_blk {w : World} {g : Nat} {r : RuleV} {t : TypeId} (h : w.heap[g]? = some (.cells #[.bool r.permit, .int .i64 r.proto, .int .u32 r.sa, .int .i64 r.sn, .int .u32 r.da, .int .i64 r.dn, .int .u32 r.sl, .int .u32 r.sh, .int .u32 r.dl, .int .u32 r.dh] t (0, 0))) :
    w.cell? ⟨g, 0, none⟩ = some (.bool r.permit) ∧ w.cell? ⟨g, 1, none⟩ = some (.int .i64 r.proto) ∧ w.cell? ⟨g, 2, none⟩ = some (.int .u32 r.sa) ∧ w.cell? ⟨g, 3, none⟩ = some (.int .i64 r.sn) ∧ w.cell? ⟨g, 4, none⟩ = some (.int .u32 r.da) ∧ w.cell? ⟨g, 5, none⟩ = some (.int .i64 r.dn) ∧ w.cell? ⟨g, 6, none⟩ = some (.int .u32 r.sl) ∧ w.cell? ⟨g, 7, none⟩ = some (.int .u32 r.sh) ∧ w.cell? ⟨g, 8, none⟩ = some (.int .u32 r.dl) ∧ w.cell? ⟨g, 9, none⟩ = some (.int .u32 r.dh) :=
  ⟨cell_of_row w g 0 _ t (0, 0) h, cell_of_row w g 1 _ t (0, 0) h, cell_of_row w g 2 _ t (0, 0) h, cell_of_row w g 3 _ t (0, 0) h, cell_of_row w g 4 _ t (0, 0) h, cell_of_row w g 5 _ t (0, 0) h, cell_of_row w g 6 _ t (0, 0) h, cell_of_row w g 7 _ t (0, 0) h, cell_of_row w g 8 _ t (0, 0) h, cell_of_row w g 9 _ t (0, 0) h⟩
/-- Words with a blank between two. -/
def joinB32 : List (List UInt8) → List UInt8
  | [] => []
  | [x] => x
  | x :: y :: r => x ++ 32 :: joinB32 (y :: r)
theorem joinC_join32 : ∀ (L : List (List UInt8)), joinB32 L = Lib.join L [32]
  | [] => rfl
  | [x] => (Lib.join_one x [32]).symm
  | x :: y :: r => by
    rw [joinB32, joinC_join32 (y :: r), Lib.join_cons, Lib.join_cons]
    simp [Lib.joinTail]
theorem prefT_len {a n : Int} (h0 : 0 ≤ n) (h1 : n ≤ 32) : (prefT a n).length ≤ 26 := by
  have e : (textA a.toNat).data.toList.length = (textA a.toNat).size := Array.length_toList
  have k1 := textA_size a.toNat
  have k2 := dec32 (n := n.toNat) (by omega)
  rw [prefT_nat h0, List.length_append, List.length_cons]
  omega
theorem portT_len {lo hi : Int} (h1 : lo < 4294967296) (h2 : hi < 4294967296) : (portT lo hi).length ≤ 21 := by
  have k1 := dec32 (n := lo.toNat) (by omega)
  have k2 := dec32 (n := hi.toNat) (by omega)
  unfold portT
  simp
  omega
theorem words_len (r : RuleV) (w1 w2 : List UInt8) (h1 : w1.length ≤ 20) (h2 : w2.length ≤ 20) (k0 : 0 ≤ r.sn) (k1 : r.sn ≤ 32) (k2 : 0 ≤ r.dn) (k3 : r.dn ≤ 32) :
    (Lib.join [w1, w2, prefT r.sa r.sn, prefT r.da r.dn, portT r.sl r.sh, portT r.dl r.dh] [32]).length ≤ 140737488355328 := by
  have a1 := prefT_len (a := r.sa) k0 k1
  have a2 := prefT_len (a := r.da) k2 k3
  have a3 := portT_len r.hsl.2 r.hsh.2
  have a4 := portT_len r.hdl.2 r.hdh.2
  rw [← joinC_join32]
  simp only [joinB32, List.length_append, List.length_cons]
  omega
theorem itoaN_any (n : Int) (h0 : 0 ≤ n) (h1 : n ≤ 9223372036854775807) (w : World) (hE : Env w) :
    Calls Tryz.prog 28 #[.int .i64 n] w fun e w' => e = .returned (.string ⟨(Lib.decDigits n.toNat).toArray⟩) ∧ Below w.heap.size w w' := by
  refine (Tryz.strconv_Itoa n (by omega) h1 w hE.tab).mono ?_
  rintro e w2 ⟨rfl, h⟩
  refine ⟨?_, below_of_grow h⟩
  obtain ⟨k, rfl⟩ := Int.eq_ofNat_of_zero_le h0
  rw [Lib.itoa_nonneg, Int.toNat_natCast]
theorem below_drew {B : Nat} {w V : World} (h : Below B w V) : Below B w V.drew := ⟨h.os, h.tape, h.output, h.size, h.block⟩
theorem cell_kept {V V' : World} {a : Addr} {v : Value} (h : Below V.heap.size V V') (c : V.cell? a = some v) : V'.cell? a = some v := (h.cell (block_lt_of_cell c)).trans c
/-- Words joined by blanks. -/
theorem joinW_any (L : List ByteArray) (g : Nat) (V : World) (h : V.heap[g]? = some (.cells (L.map Value.string).toArray 9 (0, 0))) (hpos : 0 < L.length) (hn : L.length ≤ 1000000) (hj : (Lib.join (L.map (·.data.toList)) [32]).length ≤ 140737488355328) :
    Calls Tryz.prog 49 #[.slice (some ⟨g, 0, none⟩) L.length L.length, .string ⟨#[32]⟩] V fun e V' => e = .returned (.string ⟨(Lib.join (L.map (·.data.toList)) [32]).toArray⟩) ∧ Below V.heap.size V V' := by
  have hJ := Tryz.strings_Join g 0 L.length L ⟨#[32]⟩ V (fun j x hj => by rw [Nat.zero_add]; exact cells_str h hj) (lt_of_block h) (by omega) (by omega) hj
  exact hJ
end Go.Proofs.YtlhafehhkjjchaaGreatDoor

/-
  The text of a route, and the route of a text: plain laws; no walk.
-/
namespace Go.Proofs.YtlhafehhkjjchaaGreatDoor
open Go Go.RowKit Go.Sort

/-- A route. -/
structure RtV where
  a : Int
  m : Int
  fr : Int
  di : Int
  me : Int
  ta : Int
  nm : List UInt8
  ho : Int
  dc : Bool
  ha : 0 ≤ a ∧ a < 4294967296
  hm : -9223372036854775808 ≤ m ∧ m ≤ 9223372036854775807
  hfr : 0 ≤ fr ∧ fr < 256
  hdi : -9223372036854775808 ≤ di ∧ di ≤ 9223372036854775807
  hme : -9223372036854775808 ≤ me ∧ me ≤ 9223372036854775807
  hta : -9223372036854775808 ≤ ta ∧ ta ≤ 9223372036854775807
  hho : 0 ≤ ho ∧ ho < 4294967296
instance : Inhabited RtV := ⟨⟨0, 0, 0, 0, 0, 0, [], 0, false, by omega, by omega, by omega, by omega, by omega, by omega, by omega⟩⟩
def connW : List UInt8 := [99, 111, 110, 110, 101, 99, 116, 101, 100]
def writW : List UInt8 := [119, 114, 105, 116, 116, 101, 110]
def intraW : List UInt8 := [105, 110, 116, 114, 97]
def interW : List UInt8 := [105, 110, 116, 101, 114]
def ext1W : List UInt8 := [101, 120, 116, 101, 114, 110, 97, 108, 49]
def ext2W : List UInt8 := [101, 120, 116, 101, 114, 110, 97, 108, 50]
def ebgpW : List UInt8 := [101, 98, 103, 112]
def ibgpW : List UInt8 := [105, 98, 103, 112]
def viaW : List UInt8 := [118, 105, 97]
def onW : List UInt8 := [111, 110]
def discW : List UInt8 := [100, 105, 115, 99, 97, 114, 100]
/-- The words of where routes come from. -/
def fromsL : List (List UInt8) := [[], connW, writW, intraW, interW, ext1W, ext2W, ebgpW, ibgpW]
def fromW (f : Int) : List UInt8 := fromsL[f.toNat]?.getD []
def letB (c : UInt8) : Bool := (decide (97 ≤ c.toNat) && decide (c.toNat ≤ 122)) || (decide (65 ≤ c.toNat) && decide (c.toNat ≤ 90))
def restB (c : UInt8) : Bool := (decide (48 ≤ c.toNat) && decide (c.toNat ≤ 57)) || decide (c.toNat = 45) || decide (c.toNat = 95) || decide (c.toNat = 46) || decide (c.toNat = 47)
/-- Is it a name? -/
def nameB (l : List UInt8) : Bool := match l with
  | [] => false
  | c :: r => decide (l.length ≤ 32) && letB c && r.all fun x => letB x || restB x
def fineB (n : Int) : Bool := decide (0 ≤ n) && decide (n ≤ 2147483647)
/-- May the route be written? -/
def RtV.ok (r : RtV) : Bool := decide (chk r.a r.m = 0) && decide (1 ≤ r.fr) && decide (r.fr ≤ 8) && fineB r.di && fineB r.me && fineB r.ta && (decide (r.nm = []) || nameB r.nm) && (!r.dc || (decide (r.ho = 0) && decide (r.nm = [])))
def RtV.hopW (r : RtV) : List (List UInt8) := if r.ho = 0 then [] else [viaW, (textA r.ho.toNat).data.toList]
def RtV.nmW (r : RtV) : List (List UInt8) := if r.nm = [] then [] else [onW, r.nm]
def RtV.dcW (r : RtV) : List (List UInt8) := if r.dc then [discW] else []
def RtV.words (r : RtV) : List (List UInt8) := [prefT r.a r.m, fromW r.fr, Lib.decDigits r.di.toNat, Lib.decDigits r.me.toNat, Lib.decDigits r.ta.toNat] ++ (r.hopW ++ (r.nmW ++ r.dcW))
def RtV.text (r : RtV) : List UInt8 := Lib.join r.words [32]
theorem fine_iff {n : Int} : fineB n = true ↔ 0 ≤ n ∧ n ≤ 2147483647 := by simp [fineB]
theorem rt_ok {r : RtV} (h : r.ok = true) : chk r.a r.m = 0 ∧ 1 ≤ r.fr ∧ r.fr ≤ 8 ∧ (0 ≤ r.di ∧ r.di ≤ 2147483647) ∧ (0 ≤ r.me ∧ r.me ≤ 2147483647) ∧ (0 ≤ r.ta ∧ r.ta ≤ 2147483647) ∧ (r.nm = [] ∨ nameB r.nm = true) ∧ (r.dc = true → r.ho = 0 ∧ r.nm = []) := by
  simp only [RtV.ok, Bool.and_eq_true, decide_eq_true_eq, fine_iff, Bool.or_eq_true, Bool.not_eq_true'] at h
  obtain ⟨⟨⟨⟨⟨⟨⟨h1, h2⟩, h3⟩, h4⟩, h5⟩, h6⟩, h7⟩, h8⟩ := h
  refine ⟨h1, h2, h3, h4, h5, h6, h7, fun hd => ?_⟩
  rcases h8 with h8 | h8
  · rw [hd] at h8; cases h8
  · exact h8
theorem name_no {l : List UInt8} (h : nameB l = true) : (32 : UInt8) ∉ l := by
  match l, h with
  | c :: r, h =>
    simp only [nameB, Bool.and_eq_true, List.all_eq_true] at h
    intro hm
    rcases List.mem_cons.1 hm with rfl | hm
    · exact absurd h.1.2 (by decide)
    · exact absurd (h.2 _ hm) (by decide)
theorem from_cases {f : Int} (h1 : 1 ≤ f) (h2 : f ≤ 8) : f = 1 ∨ f = 2 ∨ f = 3 ∨ f = 4 ∨ f = 5 ∨ f = 6 ∨ f = 7 ∨ f = 8 := by omega
theorem from_no {f : Int} (h1 : 1 ≤ f) (h2 : f ≤ 8) : (32 : UInt8) ∉ fromW f := by
  rcases from_cases h1 h2 with rfl | rfl | rfl | rfl | rfl | rfl | rfl | rfl <;> decide
theorem rt_words_no {r : RtV} (h : r.ok = true) : ∀ x ∈ r.words, (32 : UInt8) ∉ x := by
  obtain ⟨h1, h2, h3, h4, h5, h6, h7, h8⟩ := rt_ok h
  have k1 := chk_ok h1
  intro x hx
  simp only [RtV.words, List.mem_append, List.mem_cons, List.not_mem_nil, or_false] at hx
  rcases hx with (rfl | rfl | rfl | rfl | rfl) | hx | hx | hx
  · exact prefT_no k1.1
  · exact from_no h2 h3
  · exact not_dec (by decide) _
  · exact not_dec (by decide) _
  · exact not_dec (by decide) _
  · unfold RtV.hopW at hx
    split at hx
    · cases hx
    · simp only [List.mem_cons, List.not_mem_nil, or_false] at hx
      rcases hx with rfl | rfl
      · decide
      · exact not_text (by decide) (by decide) _
  · unfold RtV.nmW at hx
    split at hx
    · cases hx
    · rename_i hne
      simp only [List.mem_cons, List.not_mem_nil, or_false] at hx
      rcases hx with rfl | rfl
      · decide
      · rcases h7 with h7 | h7
        · exact absurd h7 hne
        · exact name_no h7
  · unfold RtV.dcW at hx
    split at hx
    · simp only [List.mem_cons, List.not_mem_nil, or_false] at hx
      rw [hx]; decide
    · cases hx
theorem rt_words {r : RtV} (h : r.ok = true) : pieces 32 r.text = r.words := pieces_joinL 32 _ (by simp [RtV.words]) (rt_words_no h)
theorem rt_ext {r q : RtV} (h0 : r.a = q.a) (h1 : r.m = q.m) (h2 : r.fr = q.fr) (h3 : r.di = q.di) (h4 : r.me = q.me) (h5 : r.ta = q.ta) (h6 : r.nm = q.nm) (h7 : r.ho = q.ho) (h8 : r.dc = q.dc) : r = q := by
  cases r; cases q; simp_all
/-- The number of a word as the program reads it. -/
def num31 (w : List UInt8) : Int := match Lib.parseUintB 31 w with | .ok n => n | _ => -1
/-- What is read of the words behind the first five: hop, name, discard. -/
def restR (w : List (List UInt8)) : Int × List UInt8 × Bool :=
  let h : Int × List (List UInt8) := match w with
    | v :: x :: t => if v = viaW then (adV (parseB x), t) else (0, w)
    | _ => (0, w)
  let n : List UInt8 × List (List UInt8) := match h.2 with
    | v :: x :: t => if v = onW then (x, t) else ([], h.2)
    | _ => ([], h.2)
  (h.1, n.1, !n.2.isEmpty)
/-- The index of a word among those of where routes come from; 0, if it is none. -/
def fromI (w : List UInt8) : Int := ((fromsL.idxOf? w).getD 0 : Nat)
theorem fromI_W {f : Int} (h1 : 1 ≤ f) (h2 : f ≤ 8) : fromI (fromW f) = f := by
  rcases from_cases h1 h2 with rfl | rfl | rfl | rfl | rfl | rfl | rfl | rfl <;> decide
theorem uint31_digits {n : Nat} (h : n < 2147483648) : Lib.parseUintB 31 (Lib.decDigits n) = .ok n := uint_digits (by decide) (by rw [show (2 : Nat) ^ 31 - 1 = 2147483647 from rfl]; omega)
theorem uint31_le {l : List UInt8} {n : Nat} (h : Lib.parseUintB 31 l = .ok n) : n < 2147483648 := by
  have := Lib.parseUintB_le h
  have e : (2 : Nat) ^ 31 - 1 = 2147483647 := by decide
  omega
theorem num31_dec {n : Int} (h0 : 0 ≤ n) (h1 : n ≤ 2147483647) : num31 (Lib.decDigits n.toNat) = n := by
  unfold num31
  rw [uint31_digits (by omega)]
  show ((n.toNat : Nat) : Int) = n
  omega
theorem num31_lt (w : List UInt8) : -1 ≤ num31 w ∧ num31 w ≤ 2147483647 := by
  unfold num31
  split
  · rename_i n h
    have := uint31_le h
    omega
  · omega
theorem fromI_lt (w : List UInt8) : 0 ≤ fromI w ∧ fromI w < 9 := by
  unfold fromI
  cases h : fromsL.idxOf? w with
  | none => simp
  | some k =>
    have : k < fromsL.length := by
      rw [List.idxOf?, List.findIdx?_eq_some_iff_getElem] at h
      exact h.1
    have e : fromsL.length = 9 := rfl
    simp only [Option.getD_some]
    omega
theorem adV_lt (l : List UInt8) : 0 ≤ adV (parseB l) ∧ adV (parseB l) < 4294967296 := by
  cases h : parseB l with
  | none => simp [adV]
  | some n =>
    have := parseB_lt h
    simp only [adV, Option.getD_some]
    omega
theorem adV_text {a : Int} (h0 : 0 ≤ a) (h1 : a < 4294967296) : adV (parseB (textA a.toNat).data.toList) = a := by
  rw [parse_text _ (by omega)]
  show ((a.toNat : Nat) : Int) = a
  omega
theorem restR_lt (w : List (List UInt8)) : 0 ≤ (restR w).1 ∧ (restR w).1 < 4294967296 := by
  unfold restR
  match w with
  | [] => simp
  | [v] => simp
  | v :: x :: t =>
    by_cases h : v = viaW
    · simp only [h, if_true]
      exact adV_lt x
    · simp only [if_neg h]
      omega
/-- The route that is read of the words w0 .. w4 and of what is behind them. -/
def candR (w0 w1 w2 w3 w4 : List UInt8) (rest : List (List UInt8)) : RtV where
  a := ppA w0
  m := ppN w0
  fr := fromI w1
  di := num31 w2
  me := num31 w3
  ta := num31 w4
  nm := (restR rest).2.1
  ho := (restR rest).1
  dc := (restR rest).2.2
  ha := ppA_lt w0
  hm := by have := ppN_range w0; omega
  hfr := by have := fromI_lt w1; omega
  hdi := by have := num31_lt w2; omega
  hme := by have := num31_lt w3; omega
  hta := by have := num31_lt w4; omega
  hho := restR_lt rest
theorem on_via : onW ≠ viaW := by decide
theorem restR_words {r : RtV} (h : r.ok = true) : restR (r.hopW ++ (r.nmW ++ r.dcW)) = (r.ho, r.nm, r.dc) := by
  obtain ⟨_, _, _, _, _, _, h7, h8⟩ := rt_ok h
  have hh := r.hho
  have e := adV_text hh.1 hh.2
  have k1 : onW ≠ viaW := by decide
  have k2 : discW ≠ viaW := by decide
  have k3 : discW ≠ onW := by decide
  unfold RtV.hopW RtV.nmW RtV.dcW
  by_cases h0 : r.ho = 0 <;> by_cases hn : r.nm = [] <;> cases hd : r.dc <;> simp_all [restR]
theorem candR_words {r : RtV} (h : r.ok = true) : candR (prefT r.a r.m) (fromW r.fr) (Lib.decDigits r.di.toNat) (Lib.decDigits r.me.toNat) (Lib.decDigits r.ta.toNat) (r.hopW ++ (r.nmW ++ r.dcW)) = r := by
  obtain ⟨h1, h2, h3, h4, h5, h6, h7, h8⟩ := rt_ok h
  have a1 := ppO_T r.ha.1 r.ha.2 h1
  have a2 := restR_words h
  refine rt_ext a1.1 a1.2.1 (fromI_W h2 h3) (num31_dec h4.1 h4.2) (num31_dec h5.1 h5.2) (num31_dec h6.1 h6.2) ?_ ?_ ?_
  · show (restR _).2.1 = _; rw [a2]
  · show (restR _).1 = _; rw [a2]
  · show (restR _).2.2 = _; rw [a2]
theorem rt_five {r : RtV} (h : r.ok = true) : ppE (prefT r.a r.m) = 0 := (ppO_T r.ha.1 r.ha.2 (rt_ok h).1).2.2
theorem rt_inj {r q : RtV} (h : r.ok = true) (hq : q.ok = true) (e : r.text = q.text) : r = q := by
  have w := rt_words h
  rw [e, rt_words hq] at w
  unfold RtV.words at w
  simp only [List.cons_append, List.nil_append] at w
  injection w with w0 w
  injection w with w1 w
  injection w with w2 w
  injection w with w3 w
  injection w with w4 w
  rw [← candR_words h, ← candR_words hq, w0, w1, w2, w3, w4, w]
open Classical in
/-- The route that a text is the text of. -/
noncomputable def roO (l : List UInt8) : Option RtV := if h : ∃ r : RtV, r.ok = true ∧ r.text = l then some h.choose else none
theorem roO_text {r : RtV} (h : r.ok = true) : roO r.text = some r := by
  have he : ∃ q : RtV, q.ok = true ∧ q.text = r.text := ⟨r, h, rfl⟩
  unfold roO
  rw [dif_pos he, rt_inj he.choose_spec.1 h he.choose_spec.2]
theorem roO_some {l : List UInt8} {r : RtV} (h : roO l = some r) : r.ok = true ∧ r.text = l := by
  unfold roO at h
  split at h
  · rename_i he
    injection h with h
    rw [← h]
    exact he.choose_spec
  · cases h
theorem roO_no {l : List UInt8} (h : ∀ r : RtV, r.ok = true → r.text = l → False) : roO l = none := by
  cases e : roO l with
  | none => rfl
  | some r => exact (h r (roO_some e).1 (roO_some e).2).elim
theorem rt_len {r : RtV} {l : List UInt8} (h : r.ok = true) (hl : r.text = l) : 5 ≤ (pieces 32 l).length := by
  rw [← hl, rt_words h]
  simp [RtV.words]
theorem roO_len {l : List UInt8} (h : (pieces 32 l).length < 5) : roO l = none := roO_no fun _ h1 h2 => by have := rt_len h1 h2; omega
theorem roO_cand {l w0 w1 w2 w3 w4 : List UInt8} {rest : List (List UInt8)} (hp : pieces 32 l = w0 :: w1 :: w2 :: w3 :: w4 :: rest) :
    roO l = if ppE w0 = 0 ∧ (candR w0 w1 w2 w3 w4 rest).ok = true ∧ (candR w0 w1 w2 w3 w4 rest).text = l then some (candR w0 w1 w2 w3 w4 rest) else none := by
  split
  · rename_i h
    have e := roO_text h.2.1
    rw [h.2.2] at e
    exact e
  · rename_i h
    refine roO_no fun r hr ht => h ?_
    have w := rt_words hr
    rw [ht, hp] at w
    unfold RtV.words at w
    simp only [List.cons_append, List.nil_append] at w
    injection w with w0 w
    injection w with w1 w
    injection w with w2 w
    injection w with w3 w
    injection w with w4 w
    subst w0 w1 w2 w3 w4 w
    rw [candR_words hr]
    exact ⟨rt_five hr, hr, ht⟩
/-- What Parse answers. -/
noncomputable def roV (l : List UInt8) : RtV := (roO l).getD default
noncomputable def roE (l : List UInt8) : Int := if (roO l).isSome then 0 else 4
theorem ro_none {l : List UInt8} (h : roO l = none) : roV l = default ∧ roE l = 4 := by unfold roV roE; rw [h]; exact ⟨rfl, rfl⟩
theorem ro_some {l : List UInt8} {r : RtV} (h : roO l = some r) : roV l = r ∧ roE l = 0 := by unfold roV roE; rw [h]; exact ⟨rfl, rfl⟩
end Go.Proofs.YtlhafehhkjjchaaGreatDoor

/-
  Walks over the layer of routes: fine, froms, line, side.
-/
namespace Go.Proofs.YtlhafehhkjjchaaGreatDoor
open Go Go.RowKit Go.Lib Go.Sort

theorem fine1_any (n : Int) (w : World) : Calls Tryz.prog 46 #[.int .i64 n] w fun e w' => e = .returned (.bool (!fineB n)) ∧ w = w' := by
  by_cases h0 : n < 0
  · have d1 : decide (n < 0) = true := by simp [h0]
    have hz : fineB n = false := by unfold fineB; simp; omega
    have hzz := Lib.hid hz
    clear hz
    go_enter Tryz.func46, Tryz.ntmps46
    go_wp2
    go_ret
    exact ⟨by rw [hzz.out]; rfl, rfl⟩
  · have d1 : decide (n < 0) = false := by simp; omega
    by_cases h1 : 2147483647 < n
    · have d2 : decide (2147483647 < n) = true := by simp [h1]
      have hz : fineB n = false := by unfold fineB; simp; omega
      have hzz := Lib.hid hz
      clear hz
      go_enter Tryz.func46, Tryz.ntmps46
      go_wp2
      go_ret
      exact ⟨by rw [hzz.out]; rfl, rfl⟩
    · have d2 : decide (2147483647 < n) = false := by simp; omega
      have hz : fineB n = true := by unfold fineB; simp; omega
      have hzz := Lib.hid hz
      clear hz
      go_enter Tryz.func46, Tryz.ntmps46
      go_wp2
      go_ret
      exact ⟨by rw [hzz.out]; rfl, rfl⟩
set_option maxHeartbeats 1000000 in
theorem fineIdx_any (L : List Int) (v : Value) (w : World) (h : Rd w w.heap.size 1 v L.length (L.map (Value.int .i64))) (hlen : L.length ≤ 1000000) :
    Calls Tryz.prog 65 #[v, .func (.func 46) #[] #[]] w fun e w' => (∃ i : Int, e = .returned (.int .i64 i) ∧ decide (0 ≤ i) = !(L.all fineB)) ∧ Below w.heap.size w w' := by
  obtain ⟨A, c, rfl, _⟩ := h.form
  have HL := Lib.hid h
  clear h
  go_enter Tryz.func65, Tryz.ntmps65
  go_wp2
  go_loopw [8] (fun i wr => ∃ j : Nat, i = .int .i64 j ∧ j ≤ L.length ∧ Hid ((L.take j).all fineB = true) ∧ Below w.heap.size w wr) (fun i _ => L.length - (intOf i).toNat)
  case atStart => exact ⟨0, rfl, by omega, Lib.hid (by simp), Below.refl _ _⟩
  case round =>
    obtain ⟨j, rfl, hj, ha, hnx⟩ := hrel
    have hsz := hnx.size
    by_cases hlt : j < L.length
    · have hI : (j : Int) < (L.length : Int) := by omega
      obtain ⟨x, hx⟩ : ∃ x, L[j]? = some x := ⟨_, List.getElem?_eq_getElem hlt⟩
      obtain ⟨b, off, c', hv, _, hbB, hcell⟩ := (HL.out.below hnx).posAt (by omega)
      injection hv with hv1 _ hv3
      subst hv1 hv3
      have f0 : wr.cell? ⟨b, off + j, none⟩ = some (.int .i64 x) := by
        have h := hcell j 0 (.int .i64 x) (by simp [hx])
        simpa using h
      have ht := Lib.hid (show (L.take (j + 1)).all fineB = fineB x by rw [List.take_add_one, hx, List.all_append, ha.out]; simp)
      have hd := Lib.hid (show fineB x = false → L.all fineB = false from fun h => by
        cases e : L.all fineB with
        | false => rfl
        | true => have := List.all_eq_true.1 e x (List.mem_of_getElem? hx); rw [h] at this; cases this)
      have hc := Lib.hid (fine1_any x wr)
      clear hcell hx ha
      cases hf : fineB x with
      | true =>
        rw [hf] at hc ht
        go_wp2_with fail
        refine hc.out.mono ?_
        rintro e w2 ⟨rfl, rfl⟩
        go_wp2
        exact ⟨⟨j + 1, by go_num, by omega, ht, hnx⟩, by simp only [intOf]; omega⟩
      | false =>
        rw [hf] at hc
        have hz := hd.out hf
        have hzz := Lib.hid hz
        clear hz
        go_wp2_with fail
        refine hc.out.mono ?_
        rintro e w2 ⟨rfl, rfl⟩
        go_wp2
        go_ret
        exact ⟨⟨_, rfl, by rw [hzz.out]; simp⟩, hnx⟩
    · obtain rfl : j = L.length := by omega
      have hI : ¬ (L.length : Int) < (L.length : Int) := by omega
      have hz := ha.out
      rw [List.take_length] at hz
      have hzz := Lib.hid hz
      clear hz ha
      go_wp2
      go_ret
      exact ⟨⟨_, rfl, by rw [hzz.out]; decide⟩, hnx⟩
set_option maxHeartbeats 1000000 in
theorem fine_any (L : List Int) (v : Value) (w : World) (h : Rd w w.heap.size 1 v L.length (L.map (Value.int .i64))) (hlen : L.length ≤ 1000000) :
    Calls Tryz.prog 25 #[v] w fun e w' => e = .returned (.bool (L.all fineB)) ∧ Below w.heap.size w w' := by
  have hi := Lib.hid (fineIdx_any L v w h hlen)
  have hc : Calls Tryz.prog 45 #[v, .func (.func 46) #[] #[]] w fun e w' => e = .returned (.bool (!(L.all fineB))) ∧ Below w.heap.size w w' := by
    go_enter Tryz.func45, Tryz.ntmps45
    go_wp2_with fail
    refine hi.out.mono ?_
    rintro e w1 ⟨⟨i, rfl, hd⟩, hb⟩
    have HD := Lib.hid hd
    go_wp2
    go_ret
    exact ⟨by rw [← HD.out]; rfl, hb⟩
  have HC := Lib.hid hc
  clear hc hi h
  go_enter Tryz.func25, Tryz.ntmps25
  go_wp2_with fail
  refine HC.out.mono ?_
  rintro e w1 ⟨rfl, hb⟩
  go_wp2
  go_ret
  exact ⟨by simp, hb⟩
def fromsBlk : Array Value := (fromsL.map fun l => Value.string ⟨l.toArray⟩).toArray
theorem froms_any (w : World) : Calls Tryz.prog 24 #[] w fun e w' => e = .returned (.slice (some ⟨w.heap.size, 0, none⟩) 9 9) ∧ w' = w.alloc (.cells fromsBlk 9) := by
  go_enter Tryz.func24, Tryz.ntmps24
  go_wp2
  go_ret
  exact ⟨rfl, rfl⟩
theorem line_any (L : List ByteArray) (g : Nat) (V : World) (h : V.heap[g]? = some (.cells (L.map Value.string).toArray 9 (0, 0))) (hpos : 0 < L.length) (hn : L.length ≤ 1000000) (hj : (Lib.join (L.map (·.data.toList)) [32]).length ≤ 140737488355328) :
    Calls Tryz.prog 30 #[.slice (some ⟨g, 0, none⟩) L.length L.length] V fun e V' => e = .returned (.string ⟨(Lib.join (L.map (·.data.toList)) [32]).toArray⟩) ∧ Below V.heap.size V V' := by
  have hJ := Lib.hid (joinW_any L g V h hpos hn hj)
  clear h hj
  go_enter Tryz.func30, Tryz.ntmps30
  go_wp2_with fail
  refine hJ.out.mono ?_
  rintro e w1 ⟨rfl, hb⟩
  go_wp2
  go_ret
  exact ⟨rfl, hb⟩
end Go.Proofs.YtlhafehhkjjchaaGreatDoor
