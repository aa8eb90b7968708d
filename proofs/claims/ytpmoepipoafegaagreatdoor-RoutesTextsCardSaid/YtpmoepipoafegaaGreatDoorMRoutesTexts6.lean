/-
  Joined texts: SpMath, SpMath2, SpText, SpMath3, SpText2, TailQ, Ft0, RtText, Rt1, Mix0, Kit3, At4.
-/
import Derived.Test.YtpmoepipoafegaaGreatDoorMRoutesTexts4
import Derived.Test.YtpmoepipoafegaaGreatDoorMRoutesTexts5
import Derived.Lib.JoinLaws
import Derived.StillTail
import Derived.Deep.QuietTactic
import Derived.BigQuiet
import Derived.Lib.QuietBelow
import Derived.OrdersHeld
import Derived.Deep.RegionHeld3
import Derived.Laws.OwnMore
/-
  Sets of numbers as spans: the normal form is told by its members. No program in sight.
-/
namespace Go.Proofs.YtpmoepipoafegaaGreatDoor

structure SpanV where
  lo : Int
  hi : Int
  hlo : 0 ≤ lo ∧ lo < 4294967296
  hhi : 0 ≤ hi ∧ hi < 4294967296
instance : Inhabited SpanV := ⟨⟨0, 0, by omega, by omega⟩⟩
theorem SpanV.eq {s t : SpanV} (h1 : s.lo = t.lo) (h2 : s.hi = t.hi) : s = t := by
  cases s; cases t; simp_all
def SpanV.inB (s : SpanV) (x : Int) : Bool := decide (s.lo ≤ x) && decide (x ≤ s.hi)
def hasB (L : List SpanV) (x : Int) : Bool := L.any fun s => s.inB x
theorem hasB_iff {L : List SpanV} {x : Int} : hasB L x = true ↔ ∃ s ∈ L, s.lo ≤ x ∧ x ≤ s.hi := by
  simp [hasB, SpanV.inB]
/-- The normal form: rising, none empty, none touching the next. -/
def NF : List SpanV → Prop
  | [] => True
  | s :: r => s.lo ≤ s.hi ∧ (∀ t ∈ r, s.hi + 1 < t.lo) ∧ NF r
theorem NF.ok {L : List SpanV} (h : NF L) : ∀ s ∈ L, s.lo ≤ s.hi := by
  induction L with
  | nil => intro s hs; simp at hs
  | cons t r ih =>
    intro s hs
    rcases List.mem_cons.1 hs with rfl | hs
    · exact h.1
    · exact ih h.2.2 s hs
theorem NF.head {s : SpanV} {r : List SpanV} (h : NF (s :: r)) {x : Int} (hx : hasB (s :: r) x = true) : s.lo ≤ x := by
  obtain ⟨t, ht, h1, h2⟩ := hasB_iff.1 hx
  rcases List.mem_cons.1 ht with rfl | ht
  · exact h1
  · have := h.2.1 t ht
    have := h.1
    omega
theorem NF.unique : ∀ {A B : List SpanV}, NF A → NF B → (∀ x, hasB A x = hasB B x) → A = B
  | [], [], _, _, _ => rfl
  | [], t :: q, _, hB, h => by
    have := h t.lo
    have h2 : hasB (t :: q) t.lo = true := hasB_iff.2 ⟨t, List.mem_cons_self .., by omega, hB.1⟩
    rw [h2] at this
    simp [hasB] at this
  | s :: r, [], hA, _, h => by
    have := h s.lo
    have h2 : hasB (s :: r) s.lo = true := hasB_iff.2 ⟨s, List.mem_cons_self .., by omega, hA.1⟩
    rw [h2] at this
    simp [hasB] at this
  | s :: r, t :: q, hA, hB, h => by
    have a1 : hasB (s :: r) s.lo = true := hasB_iff.2 ⟨s, List.mem_cons_self .., by omega, hA.1⟩
    have b1 : hasB (t :: q) t.lo = true := hasB_iff.2 ⟨t, List.mem_cons_self .., by omega, hB.1⟩
    have l1 := hB.head ((h s.lo).symm.trans a1)
    have l2 := hA.head ((h t.lo).trans b1)
    have hlo : s.lo = t.lo := by omega
    have key : ∀ {s t : SpanV} {r q : List SpanV}, NF (s :: r) → NF (t :: q) → s.lo = t.lo → (∀ x, hasB (s :: r) x = hasB (t :: q) x) → ¬ s.hi < t.hi := by
      intro s t r q hA hB hlo h hlt
      have h1 : hasB (t :: q) (s.hi + 1) = true := hasB_iff.2 ⟨t, List.mem_cons_self .., by have := hA.1; omega, by omega⟩
      obtain ⟨u, hu, h2, h3⟩ := hasB_iff.1 ((h _).trans h1)
      rcases List.mem_cons.1 hu with rfl | hu
      · omega
      · have := hA.2.1 u hu; omega
    have n1 := key hA hB hlo h
    have n2 := key hB hA hlo.symm (fun x => (h x).symm)
    have e : s = t := SpanV.eq hlo (by omega)
    subst e
    have rest : ∀ {s : SpanV} {r : List SpanV}, NF (s :: r) → ∀ x, hasB r x = (hasB (s :: r) x && decide (s.hi < x)) := by
      intro s r hA x
      rw [Bool.eq_iff_iff, Bool.and_eq_true, decide_eq_true_eq, hasB_iff, hasB_iff]
      constructor
      · rintro ⟨u, hu, h1, h2⟩
        have := hA.2.1 u hu
        exact ⟨⟨u, List.mem_cons_of_mem _ hu, h1, h2⟩, by omega⟩
      · rintro ⟨⟨u, hu, h1, h2⟩, h3⟩
        rcases List.mem_cons.1 hu with rfl | hu
        · omega
        · exact ⟨u, hu, h1, h2⟩
    rw [NF.unique hA.2.2 hB.2.2 (fun x => by rw [rest hA x, rest hB x, h x])]

end Go.Proofs.YtpmoepipoafegaaGreatDoor

/-
  Sets of numbers as spans: the list in normal form with given members; one step of the merging. No program in sight.
-/
namespace Go.Proofs.YtpmoepipoafegaaGreatDoor

open Classical in
/-- The normal form of a set of numbers (if it has one). -/
noncomputable def theSet (P : Int → Bool) : List SpanV := if h : ∃ R : List SpanV, NF R ∧ ∀ x, hasB R x = P x then h.choose else []
theorem theSet_eq {P : Int → Bool} {R : List SpanV} (h : NF R) (hm : ∀ x, hasB R x = P x) : theSet P = R := by
  have he : ∃ R : List SpanV, NF R ∧ ∀ x, hasB R x = P x := ⟨R, h, hm⟩
  unfold theSet
  rw [dif_pos he]
  exact NF.unique he.choose_spec.1 h (fun x => (he.choose_spec.2 x).trans (hm x).symm)
theorem inB_iff {s : SpanV} {x : Int} : s.inB x = true ↔ s.lo ≤ x ∧ x ≤ s.hi := by simp [SpanV.inB]
theorem hasB_append (A B : List SpanV) (x : Int) : hasB (A ++ B) x = (hasB A x || hasB B x) := by simp [hasB]
theorem hasB_one (s : SpanV) (x : Int) : hasB [s] x = s.inB x := by simp [hasB]
theorem hasB_perm {A B : List SpanV} (h : A.Perm B) (x : Int) : hasB A x = hasB B x := by
  rw [Bool.eq_iff_iff, hasB_iff, hasB_iff]
  constructor
  · rintro ⟨s, hs, h1⟩; exact ⟨s, h.mem_iff.1 hs, h1⟩
  · rintro ⟨s, hs, h1⟩; exact ⟨s, h.mem_iff.2 hs, h1⟩
theorem NF.snoc : ∀ {A : List SpanV} {t : SpanV}, NF (A ++ [t]) ↔ NF A ∧ t.lo ≤ t.hi ∧ ∀ a ∈ A, a.hi + 1 < t.lo
  | [], t => by simp [NF]
  | s :: A, t => by
    have ih := @NF.snoc A t
    show (s.lo ≤ s.hi ∧ (∀ u ∈ A ++ [t], s.hi + 1 < u.lo) ∧ NF (A ++ [t])) ↔ _
    rw [ih]
    constructor
    · rintro ⟨h1, h2, h3, h4, h5⟩
      refine ⟨⟨h1, fun u hu => h2 u (List.mem_append_left _ hu), h3⟩, h4, fun a ha => ?_⟩
      rcases List.mem_cons.1 ha with rfl | ha
      · exact h2 t (List.mem_append_right _ (List.mem_singleton.2 rfl))
      · exact h5 a ha
    · rintro ⟨⟨h1, h2, h3⟩, h4, h5⟩
      refine ⟨h1, fun u hu => ?_, h3, h4, fun a ha => h5 a (List.mem_cons_of_mem _ ha)⟩
      rcases List.mem_append.1 hu with hu | hu
      · exact h2 u hu
      · obtain rfl := List.mem_singleton.1 hu
        exact h5 s (List.mem_cons_self ..)
/-- A span that reaches farther. -/
def SpanV.reach (t s : SpanV) : SpanV := ⟨t.lo, max t.hi s.hi, t.hlo, by have := t.hhi; have := s.hhi; omega⟩
theorem merge_in {A : List SpanV} {t s : SpanV} (h : NF (A ++ [t])) (hs : s.lo ≤ s.hi) (hts : t.lo ≤ s.lo) (hm : s.lo ≤ t.hi + 1) :
    NF (A ++ [t.reach s]) ∧ ∀ x, hasB (A ++ [t.reach s]) x = (hasB (A ++ [t]) x || s.inB x) := by
  obtain ⟨h1, h2, h3⟩ := NF.snoc.1 h
  refine ⟨NF.snoc.2 ⟨h1, ?_, h3⟩, fun x => ?_⟩
  · show t.lo ≤ max t.hi s.hi
    omega
  · rw [hasB_append, hasB_append, hasB_one, hasB_one, Bool.or_assoc]
    congr 1
    rw [Bool.eq_iff_iff, Bool.or_eq_true, inB_iff, inB_iff, inB_iff]
    show (t.lo ≤ x ∧ x ≤ max t.hi s.hi) ↔ _
    omega
theorem merge_new {A : List SpanV} {t s : SpanV} (h : NF (A ++ [t])) (hs : s.lo ≤ s.hi) (hm : t.hi + 1 < s.lo) : NF (A ++ [t] ++ [s]) := by
  obtain ⟨h1, h2, h3⟩ := NF.snoc.1 h
  refine NF.snoc.2 ⟨h, hs, fun a ha => ?_⟩
  rcases List.mem_append.1 ha with ha | ha
  · have := h3 a ha; omega
  · obtain rfl := List.mem_singleton.1 ha
    exact hm

end Go.Proofs.YtpmoepipoafegaaGreatDoor

/-
  The text of a set of numbers, and what is read of a text: no program in sight.
-/
namespace Go.Proofs.YtpmoepipoafegaaGreatDoor

def SpanV.t (s : SpanV) : List UInt8 := if s.lo = s.hi then Lib.decDigits s.lo.toNat else Lib.decDigits s.lo.toNat ++ 45 :: Lib.decDigits s.hi.toNat
def joinC : List (List UInt8) → List UInt8
  | [] => []
  | [x] => x
  | x :: y :: r => x ++ 44 :: joinC (y :: r)
def setT (F : List SpanV) : List UInt8 := if F = [] then [45] else joinC (F.map SpanV.t)
theorem t_comma (s : SpanV) : (44 : UInt8) ∉ s.t := by
  unfold SpanV.t
  split
  · exact not_dec (by decide) _
  · intro h
    rw [List.mem_append, List.mem_cons] at h
    rcases h with h | h | h
    · exact not_dec (by decide) _ h
    · exact absurd h (by decide)
    · exact not_dec (by decide) _ h
theorem pieces_join : ∀ (L : List (List UInt8)), L ≠ [] → (∀ x ∈ L, (44 : UInt8) ∉ x) → pieces 44 (joinC L) = L
  | [], h, _ => absurd rfl h
  | [x], _, h => pieces_none (h x (by simp))
  | x :: y :: r, _, h => by
    rw [joinC, pieces_cons _ (h x (by simp)), pieces_join (y :: r) (by simp) (fun z hz => h z (List.mem_cons_of_mem _ hz))]
theorem setT_pieces {F : List SpanV} (h : F ≠ []) : pieces 44 (setT F) = F.map SpanV.t := by
  unfold setT
  rw [if_neg h]
  exact pieces_join _ (by simpa using h) (fun x hx => by
    obtain ⟨s, _, rfl⟩ := List.mem_map.1 hx
    exact t_comma s)
theorem uint32_digits {n : Nat} (h : n < 4294967296) : Lib.parseUintB 32 (Lib.decDigits n) = .ok n := uint_digits (by decide) (by rw [show (2 : Nat) ^ 32 - 1 = 4294967295 from rfl]; omega)
theorem uint32_le {l : List UInt8} {n : Nat} (h : Lib.parseUintB 32 l = .ok n) : n < 4294967296 := by
  have := Lib.parseUintB_le h
  have e : (2 : Nat) ^ 32 - 1 = 4294967295 := by decide
  omega
theorem index_none1 {c : UInt8} : ∀ {l : List UInt8}, c ∉ l → Lib.index l [c] = -1
  | [], _ => by simp [Lib.index]
  | x :: r, h => by
    rw [index_one, if_neg (fun e => h (by simp [e])), index_none1 (fun hm => h (List.mem_cons_of_mem _ hm)), if_pos rfl]
theorem cut_none1 {c : UInt8} {l : List UInt8} (h : c ∉ l) : Lib.cut l [c] = (l, [], false) := by
  unfold Lib.cut
  rw [index_none1 h, if_neg (by omega)]
/-- A word's two numbers. -/
def wordO (w : List UInt8) : Option (Nat × Nat) :=
  match Lib.parseUintB 32 (Lib.cut w [45]).1, Lib.parseUintB 32 (if (Lib.cut w [45]).2.2 then (Lib.cut w [45]).2.1 else (Lib.cut w [45]).1) with
  | .ok a, .ok b => if a ≤ b ∧ ((Lib.cut w [45]).2.2 = true → a ≠ b) then some (a, b) else none
  | _, _ => none
theorem wordO_t {s : SpanV} (h : s.lo ≤ s.hi) : wordO s.t = some (s.lo.toNat, s.hi.toNat) := by
  have := s.hlo
  have := s.hhi
  unfold wordO SpanV.t
  by_cases e : s.lo = s.hi
  · rw [if_pos e, ← e, cut_none1 (not_dec (by decide) _)]
    simp only [Bool.false_eq_true, if_false, uint32_digits (n := s.lo.toNat) (by omega)]
    simp
  · rw [if_neg e, cut_hit1 _ (not_dec (by decide) _)]
    simp only [if_true, uint32_digits (n := s.lo.toNat) (by omega), uint32_digits (n := s.hi.toNat) (by omega)]
    rw [if_pos ⟨by omega, fun _ => by omega⟩]
def SpanV.two (s : SpanV) : Nat × Nat := (s.lo.toNat, s.hi.toNat)
/-- The words' numbers. -/
def readL : List (List UInt8) → Option (List (Nat × Nat))
  | [] => some []
  | w :: r => match wordO w, readL r with
    | some x, some l => some (x :: l)
    | _, _ => none
theorem readL_t : ∀ (F : List SpanV), (∀ s ∈ F, s.lo ≤ s.hi) → readL (F.map SpanV.t) = some (F.map SpanV.two)
  | [], _ => rfl
  | s :: r, h => by
    rw [List.map_cons, readL, wordO_t (h s (by simp)), readL_t r (fun x hx => h x (List.mem_cons_of_mem _ hx))]
    rfl
/-- What is read of the text of a set in its form is that set. -/
theorem read_back {F : List SpanV} (h : F ≠ []) (hn : ∀ s ∈ F, s.lo ≤ s.hi) : readL (pieces 44 (setT F)) = some (F.map SpanV.two) := by
  rw [setT_pieces h, readL_t F hn]
theorem two_inj {s t : SpanV} (h : s.two = t.two) : s = t := by
  have h1 := s.hlo
  have h2 := s.hhi
  have h3 := t.hlo
  have h4 := t.hhi
  unfold SpanV.two at h
  injection h with e1 e2
  exact SpanV.eq (by omega) (by omega)
theorem map_two_inj : ∀ {A B : List SpanV}, A.map SpanV.two = B.map SpanV.two → A = B
  | [], [], _ => rfl
  | [], _ :: _, h => by simp at h
  | _ :: _, [], h => by simp at h
  | a :: A, b :: B, h => by
    rw [List.map_cons, List.map_cons] at h
    injection h with h1 h2
    rw [two_inj h1, map_two_inj h2]
/-- A list that a text was read to, and whose form has that text, is its form. -/
theorem read_form {l F : List SpanV} {s : List UInt8} (hs : s ≠ [45]) (hl : readL (pieces 44 s) = some (l.map SpanV.two)) (hF : ∀ x ∈ F, x.lo ≤ x.hi) (ht : setT F = s) : l = F := by
  have hne : F ≠ [] := fun e => hs (by rw [← ht, e]; rfl)
  have h := read_back hne hF
  rw [ht, hl] at h
  injection h with h
  exact map_two_inj h
/-- A word's two numbers as the document reads them: in their one spelling. -/
def wordD (w : List UInt8) : Option (Nat × Nat) :=
  match readB (Lib.cut w [45]).1 4294967295, readB (if (Lib.cut w [45]).2.2 then (Lib.cut w [45]).2.1 else (Lib.cut w [45]).1) 4294967295 with
  | some a, some b => if a ≤ b ∧ ((Lib.cut w [45]).2.2 = true → a ≠ b) then some (a, b) else none
  | _, _ => none
theorem read_uint {l : List UInt8} {n : Nat} (h : readB l 4294967295 = some n) : Lib.parseUintB 32 l = .ok n := by
  obtain ⟨h1, h2⟩ := readB_some.1 h
  rw [← h1]
  exact uint32_digits (by omega)
theorem wordD_O {w : List UInt8} {x : Nat × Nat} (h : wordD w = some x) : wordO w = some x := by
  unfold wordD at h
  unfold wordO
  split at h
  · rename_i a b h1 h2
    rw [read_uint h1, read_uint h2]
    exact h
  · cases h
theorem wordD_t {s : SpanV} (h : s.lo ≤ s.hi) : wordD s.t = some (s.lo.toNat, s.hi.toNat) := by
  have := s.hlo
  have := s.hhi
  have hr : ∀ n : Nat, n ≤ 4294967295 → readB (Lib.decDigits n) 4294967295 = some n := fun n hn => readB_some.2 ⟨rfl, hn⟩
  unfold wordD SpanV.t
  by_cases e : s.lo = s.hi
  · rw [if_pos e, ← e, cut_none1 (not_dec (by decide) _)]
    simp only [Bool.false_eq_true, if_false, hr s.lo.toNat (by omega)]
    simp
  · rw [if_neg e, cut_hit1 _ (not_dec (by decide) _)]
    simp only [if_true, hr s.lo.toNat (by omega), hr s.hi.toNat (by omega)]
    rw [if_pos ⟨by omega, fun _ => by omega⟩]
theorem wordO_ok {w : List UInt8} {x : Nat × Nat} (h : wordO w = some x) : x.1 ≤ x.2 ∧ x.2 < 4294967296 := by
  unfold wordO at h
  split at h
  · rename_i a b h1 h2
    split at h
    · rename_i hc
      injection h with h
      subst h
      exact ⟨hc.1, uint32_le h2⟩
    · cases h
  · cases h
def spanOf (x : Nat × Nat) (h : x.1 ≤ x.2 ∧ x.2 < 4294967296) : SpanV := ⟨x.1, x.2, by omega, by omega⟩
theorem spanOf_two (x : Nat × Nat) (h : x.1 ≤ x.2 ∧ x.2 < 4294967296) : (spanOf x h).two = x := by
  obtain ⟨a, b⟩ := x
  simp [spanOf, SpanV.two]
theorem readL_spans : ∀ {ws : List (List UInt8)} {l : List (Nat × Nat)}, readL ws = some l → ∃ L : List SpanV, l = L.map SpanV.two ∧ ∀ s ∈ L, s.lo ≤ s.hi
  | [], l, h => by
    injection h with h
    exact ⟨[], h.symm, by simp⟩
  | w :: r, l, h => by
    rw [readL] at h
    split at h
    · rename_i x l' h1 h2
      injection h with h
      subst h
      obtain ⟨L, hL, hk⟩ := readL_spans h2
      have hx := wordO_ok h1
      refine ⟨spanOf x hx :: L, ?_, ?_⟩
      · rw [List.map_cons, spanOf_two, hL]
      · intro s hs
        rcases List.mem_cons.1 hs with rfl | hs
        · show ((x.1 : Nat) : Int) ≤ x.2
          omega
        · exact hk s hs
    · cases h
def readD : List (List UInt8) → Option (List (Nat × Nat))
  | [] => some []
  | w :: r => match wordD w, readD r with
    | some x, some l => some (x :: l)
    | _, _ => none
theorem readD_L : ∀ {ws : List (List UInt8)} {l : List (Nat × Nat)}, readD ws = some l → readL ws = some l
  | [], l, h => h
  | w :: r, l, h => by
    rw [readD] at h
    split at h
    · rename_i x l' h1 h2
      rw [readL, wordD_O h1, readD_L h2]
      exact h
    · cases h
theorem readD_t : ∀ (F : List SpanV), (∀ s ∈ F, s.lo ≤ s.hi) → readD (F.map SpanV.t) = some (F.map SpanV.two)
  | [], _ => rfl
  | s :: r, h => by
    rw [List.map_cons, readD, wordD_t (h s (by simp)), readD_t r (fun x hx => h x (List.mem_cons_of_mem _ hx))]
    rfl
end Go.Proofs.YtpmoepipoafegaaGreatDoor

/-
  Sets of numbers as spans: the merging of a sorted list; what is in both; what is in none. No program in sight.
-/
namespace Go.Proofs.YtpmoepipoafegaaGreatDoor

theorem hasB_nil (x : Int) : hasB [] x = false := rfl
theorem hasB_take_succ {L : List SpanV} {j : Nat} {s : SpanV} (h : L[j]? = some s) (x : Int) : hasB (L.take (j + 1)) x = (hasB (L.take j) x || s.inB x) := by
  rw [List.take_add_one, h, hasB_append]
  show _ = (_ || s.inB x)
  congr 1
  simp [hasB]
/-- One step of the merging. -/
def mstep (O : List SpanV) (s : SpanV) : List SpanV :=
  match O.getLast? with
  | none => [s]
  | some t => if s.lo ≤ t.hi + 1 then O.dropLast ++ [t.reach s] else O ++ [s]
theorem mstep_nil (s : SpanV) : mstep [] s = [s] := rfl
theorem mstep_in {A : List SpanV} {t s : SpanV} (h : s.lo ≤ t.hi + 1) : mstep (A ++ [t]) s = A ++ [t.reach s] := by
  simp [mstep, h]
theorem mstep_new {A : List SpanV} {t s : SpanV} (h : ¬ s.lo ≤ t.hi + 1) : mstep (A ++ [t]) s = A ++ [t] ++ [s] := by
  simp [mstep, h]
def mfold (L : List SpanV) : List SpanV := L.foldl mstep []
theorem mfold_succ {L : List SpanV} {j : Nat} {s : SpanV} (h : L[j]? = some s) : mfold (L.take (j + 1)) = mstep (mfold (L.take j)) s := by
  rw [List.take_add_one, h]
  simp [mfold, List.foldl_append]
theorem snoc_cases {α : Type} (O : List α) : O = [] ∨ ∃ A t, O = A ++ [t] := by
  rcases List.eq_nil_or_concat O with h | ⟨A, t, h⟩
  · exact .inl h
  · exact .inr ⟨A, t, by simpa using h⟩
theorem mfold_ok {L : List SpanV} (hs : L.Pairwise (fun x y => x.lo ≤ y.lo)) (hv : ∀ s ∈ L, s.lo ≤ s.hi) :
    ∀ j, j ≤ L.length → NF (mfold (L.take j)) ∧ (∀ x, hasB (mfold (L.take j)) x = hasB (L.take j) x) ∧ ∀ t ∈ mfold (L.take j), ∀ s ∈ L.drop j, t.lo ≤ s.lo := by
  intro j
  induction j with
  | zero => intro _; exact ⟨trivial, fun x => rfl, fun t ht => by simp [mfold] at ht⟩
  | succ j ih =>
    intro hj
    obtain ⟨h1, h2, h3⟩ := ih (by omega)
    obtain ⟨s, hsj⟩ : ∃ s, L[j]? = some s := ⟨_, List.getElem?_eq_getElem (by omega)⟩
    have hsm : s ∈ L := List.mem_of_getElem? hsj
    have hd : L.drop j = s :: L.drop (j + 1) := by
      obtain ⟨hj', e⟩ := List.getElem?_eq_some_iff.1 hsj
      rw [List.drop_eq_getElem_cons hj', e]
    have hsrest : ∀ u ∈ L.drop (j + 1), s.lo ≤ u.lo := by
      have := hs.sublist (List.drop_sublist j L)
      rw [hd] at this
      exact (List.pairwise_cons.1 this).1
    have h3' : ∀ t ∈ mfold (L.take j), t.lo ≤ s.lo := fun t ht => h3 t ht s (by rw [hd]; exact List.mem_cons_self ..)
    have h3'' : ∀ t ∈ mfold (L.take j), ∀ u ∈ L.drop (j + 1), t.lo ≤ u.lo := fun t ht u hu => h3 t ht u (by rw [hd]; exact List.mem_cons_of_mem _ hu)
    rw [mfold_succ hsj]
    have hmem : ∀ x, hasB (L.take (j + 1)) x = (hasB (mfold (L.take j)) x || s.inB x) := fun x => by rw [hasB_take_succ hsj, h2 x]
    generalize hO : mfold (L.take j) = O at *
    rcases snoc_cases O with rfl | ⟨A, t, rfl⟩
    · rw [mstep_nil]
      refine ⟨⟨hv s hsm, fun t ht => by simp at ht, trivial⟩, fun x => by rw [hmem, hasB_one, hasB_nil, Bool.false_or], fun t ht u hu => ?_⟩
      obtain rfl := List.mem_singleton.1 ht
      exact hsrest u hu
    · have htl : t.lo ≤ s.lo := h3' t (List.mem_append_right _ (List.mem_singleton.2 rfl))
      by_cases hm : s.lo ≤ t.hi + 1
      · rw [mstep_in hm]
        obtain ⟨k1, k2⟩ := merge_in h1 (hv s hsm) htl hm
        refine ⟨k1, fun x => by rw [k2, hmem], fun u hu v hv' => ?_⟩
        rcases List.mem_append.1 hu with hu | hu
        · exact h3'' u (List.mem_append_left _ hu) v hv'
        · obtain rfl := List.mem_singleton.1 hu
          exact h3'' t (List.mem_append_right _ (List.mem_singleton.2 rfl)) v hv'
      · rw [mstep_new hm]
        refine ⟨merge_new h1 (hv s hsm) (by omega), fun x => by rw [hasB_append, hasB_one, hmem], fun u hu v hv' => ?_⟩
        rcases List.mem_append.1 hu with hu | hu
        · exact h3'' u hu v hv'
        · obtain rfl := List.mem_singleton.1 hu
          exact hsrest v hv'
/-- The form of a list: what the program's three steps make is the list in normal form with the same members. -/
def okS (s : SpanV) : Bool := decide (s.lo ≤ s.hi)
theorem hasB_filter (L : List SpanV) (x : Int) : hasB (L.filter okS) x = hasB L x := by
  rw [Bool.eq_iff_iff, hasB_iff, hasB_iff]
  constructor
  · rintro ⟨s, hs, h1⟩; exact ⟨s, (List.mem_filter.1 hs).1, h1⟩
  · rintro ⟨s, hs, h1, h2⟩; exact ⟨s, List.mem_filter.2 ⟨hs, by simp [okS]; omega⟩, h1, h2⟩
noncomputable def formOf (L : List SpanV) : List SpanV := theSet (hasB L)
theorem formOf_eq {L L' : List SpanV} (hp : L'.Perm (L.filter okS)) (hs : L'.Pairwise (fun x y => x.lo ≤ y.lo)) :
    formOf L = mfold L' ∧ NF (mfold L') ∧ ∀ x, hasB (mfold L') x = hasB L x := by
  have hv : ∀ s ∈ L', s.lo ≤ s.hi := fun s h => by
    have := (List.mem_filter.1 (hp.mem_iff.1 h)).2
    simpa [okS] using this
  obtain ⟨h1, h2, _⟩ := mfold_ok hs hv L'.length (Nat.le_refl _)
  rw [List.take_length] at h1 h2
  have h3 : ∀ x, hasB (mfold L') x = hasB L x := fun x => by rw [h2, hasB_perm hp, hasB_filter]
  exact ⟨theSet_eq h1 h3, h1, h3⟩
theorem formOf_ok (L : List SpanV) : NF (formOf L) ∧ ∀ x, hasB (formOf L) x = hasB L x := by
  have hp : ((L.filter okS).mergeSort (fun x y => decide (x.lo ≤ y.lo))).Perm (L.filter okS) := List.mergeSort_perm _ _
  have hs : ((L.filter okS).mergeSort (fun x y => decide (x.lo ≤ y.lo))).Pairwise (fun x y => x.lo ≤ y.lo) := by
    have := List.pairwise_mergeSort (le := fun (x y : SpanV) => decide (x.lo ≤ y.lo)) (fun a b c h1 h2 => by simp at *; omega) (fun a b => by simp; omega) (L.filter okS)
    exact this.imp (fun h => by simpa using h)
  obtain ⟨h1, h2, h3⟩ := formOf_eq hp hs
  rw [h1]
  exact ⟨h2, h3⟩
theorem theSet_form {P : Int → Bool} {L : List SpanV} (h : ∀ x, hasB L x = P x) : theSet P = formOf L := by
  obtain ⟨h1, h2⟩ := formOf_ok L
  exact theSet_eq h1 (fun x => by rw [h2, h])
theorem mfold_len (L : List SpanV) : ∀ j, (mfold (L.take j)).length ≤ j := by
  intro j
  induction j with
  | zero => simp [mfold]
  | succ j ih =>
    rcases Nat.lt_or_ge j L.length with h | h
    · rw [mfold_succ (List.getElem?_eq_getElem h)]
      generalize mfold (L.take j) = O at *
      rcases snoc_cases O with rfl | ⟨A, t, rfl⟩
      · simp [mstep_nil]
      · by_cases hm : (L[j]).lo ≤ t.hi + 1
        · rw [mstep_in hm]; simp at *; omega
        · rw [mstep_new hm]; simp at *; omega
    · have e : L.take (j + 1) = L.take j := by rw [List.take_of_length_le h, List.take_of_length_le (by omega)]
      rw [e]; omega
theorem formOf_len (L : List SpanV) : (formOf L).length ≤ L.length := by
  have hp : ((L.filter okS).mergeSort (fun x y => decide (x.lo ≤ y.lo))).Perm (L.filter okS) := List.mergeSort_perm _ _
  have hs : ((L.filter okS).mergeSort (fun x y => decide (x.lo ≤ y.lo))).Pairwise (fun x y => x.lo ≤ y.lo) := by
    have := List.pairwise_mergeSort (le := fun (x y : SpanV) => decide (x.lo ≤ y.lo)) (fun a b c h1 h2 => by simp at *; omega) (fun a b => by simp; omega) (L.filter okS)
    exact this.imp (fun h => by simpa using h)
  rw [(formOf_eq hp hs).1]
  generalize hM : (L.filter okS).mergeSort (fun x y => decide (x.lo ≤ y.lo)) = M at *
  have := mfold_len M M.length
  rw [List.take_length] at this
  have := hp.length_eq
  have := List.length_filter_le okS L
  omega

/-- What two spans have in common. -/
def meet1 (s t : SpanV) : List SpanV := if max s.lo t.lo ≤ min s.hi t.hi then [⟨max s.lo t.lo, min s.hi t.hi, by have := s.hlo; have := t.hlo; omega, by have := s.hhi; have := t.hhi; omega⟩] else []
theorem hasB_meet1 (s t : SpanV) (x : Int) : hasB (meet1 s t) x = (s.inB x && t.inB x) := by
  unfold meet1
  rw [Bool.eq_iff_iff, Bool.and_eq_true, inB_iff, inB_iff]
  split
  · rw [hasB_one, inB_iff]; show (max s.lo t.lo ≤ x ∧ x ≤ min s.hi t.hi) ↔ _; omega
  · rw [hasB_nil]; simp; omega
def meetRow (s : SpanV) (B : List SpanV) : List SpanV := B.flatMap (meet1 s)
def meetAll (A B : List SpanV) : List SpanV := A.flatMap (fun s => meetRow s B)
theorem hasB_flatMap {α : Type} (f : α → List SpanV) (A : List α) (x : Int) : hasB (A.flatMap f) x = A.any fun a => hasB (f a) x := by
  induction A with
  | nil => rfl
  | cons a A ih => rw [List.flatMap_cons, hasB_append, ih, List.any_cons]
theorem hasB_meetAll (A B : List SpanV) (x : Int) : hasB (meetAll A B) x = (hasB A x && hasB B x) := by
  unfold meetAll meetRow
  rw [hasB_flatMap]
  simp only [hasB_flatMap, hasB_meet1]
  rw [Bool.eq_iff_iff]
  simp [hasB]
  constructor
  · rintro ⟨s, hs, t, ht, h1, h2⟩; exact ⟨⟨s, hs, h1⟩, t, ht, h2⟩
  · rintro ⟨⟨s, hs, h1⟩, t, ht, h2⟩; exact ⟨s, hs, t, ht, h1, h2⟩
theorem meetRow_succ {s t : SpanV} {B : List SpanV} {k : Nat} (h : B[k]? = some t) : meetRow s (B.take (k + 1)) = meetRow s (B.take k) ++ meet1 s t := by
  unfold meetRow
  rw [List.take_add_one, h, List.flatMap_append]
  simp
theorem meetAll_succ {s : SpanV} {A B : List SpanV} {k : Nat} (h : A[k]? = some s) : meetAll (A.take (k + 1)) B = meetAll (A.take k) B ++ meetRow s B := by
  unfold meetAll
  rw [List.take_add_one, h, List.flatMap_append]
  simp
theorem meet1_len (s t : SpanV) : (meet1 s t).length ≤ 1 := by unfold meet1; split <;> simp
theorem meetRow_len (s : SpanV) (B : List SpanV) : (meetRow s B).length ≤ B.length := by
  induction B with
  | nil => simp [meetRow]
  | cons t B ih =>
    have := meet1_len s t
    simp only [meetRow, List.flatMap_cons, List.length_append, List.length_cons] at *
    omega
theorem meetAll_len (A B : List SpanV) : (meetAll A B).length ≤ A.length * B.length := by
  induction A with
  | nil => simp [meetAll]
  | cons s A ih =>
    have := meetRow_len s B
    simp only [meetAll, List.flatMap_cons, List.length_append, List.length_cons, Nat.succ_mul] at *
    omega

/-- What is not in a list, up to most: step by step over its form. -/
def gapOf (at' most : Int) (s : SpanV) : List SpanV :=
  if h : 0 ≤ at' ∧ at' < s.lo ∧ at' ≤ most ∧ most < 4294967296 then [⟨at', min (s.lo - 1) most, by omega, by omega⟩] else []
def natAt (F : List SpanV) : Int := match F.getLast? with | none => 0 | some s => s.hi + 1
theorem natAt_succ {F : List SpanV} {k : Nat} {s : SpanV} (h : F[k]? = some s) : natAt (F.take (k + 1)) = s.hi + 1 := by
  rw [List.take_add_one, h]
  simp [natAt]
theorem natAt_range {F : List SpanV} : 0 ≤ natAt F ∧ natAt F ≤ 4294967296 := by
  rcases snoc_cases F with rfl | ⟨A, t, rfl⟩
  · simp [natAt]
  · simp [natAt]; have := t.hhi; omega
theorem hasB_natAt {F : List SpanV} (h : NF F) {x : Int} (hx : hasB F x = true) : x < natAt F := by
  rcases snoc_cases F with rfl | ⟨A, t, rfl⟩
  · simp [hasB] at hx
  · obtain ⟨h1, h2, h3⟩ := NF.snoc.1 h
    obtain ⟨s, hs, hx1, hx2⟩ := hasB_iff.1 hx
    have e : natAt (A ++ [t]) = t.hi + 1 := by simp [natAt]
    rw [e]
    rcases List.mem_append.1 hs with hs | hs
    · have := h3 s hs; omega
    · obtain rfl := List.mem_singleton.1 hs; omega
theorem NF.take {F : List SpanV} (h : NF F) : ∀ k, NF (F.take k) := by
  induction F with
  | nil => intro k; simp [NF]
  | cons s r ih =>
    intro k
    cases k with
    | zero => trivial
    | succ k => exact ⟨h.1, fun t ht => h.2.1 t (List.mem_of_mem_take ht), ih h.2.2 k⟩
theorem NF.at_le {F : List SpanV} (h : NF F) {k : Nat} {s : SpanV} (hk : F[k]? = some s) : natAt (F.take k) ≤ s.lo := by
  have h1 := h.take (k + 1)
  rw [List.take_add_one, hk] at h1
  obtain ⟨_, h3, h4⟩ := NF.snoc.1 (show NF (F.take k ++ [s]) from h1)
  rcases snoc_cases (F.take k) with e | ⟨A, t, e⟩
  · rw [e]; exact s.hlo.1
  · rw [e] at h4 ⊢
    have := h4 t (List.mem_append_right _ (List.mem_singleton.2 rfl))
    simp [natAt]; omega
def notTo (most : Int) (F : List SpanV) : Nat → List SpanV
  | 0 => []
  | k + 1 => notTo most F k ++ (match F[k]? with | some s => gapOf (natAt (F.take k)) most s | none => [])
theorem notTo_succ {most : Int} {F : List SpanV} {k : Nat} {s : SpanV} (h : F[k]? = some s) : notTo most F (k + 1) = notTo most F k ++ gapOf (natAt (F.take k)) most s := by
  rw [notTo, h]
def lastOf (at' most : Int) : List SpanV := if h : 0 ≤ at' ∧ at' ≤ most ∧ most < 4294967296 then [⟨at', most, by omega, by omega⟩] else []
def notAll (most : Int) (F : List SpanV) : List SpanV := notTo most F F.length ++ lastOf (natAt F) most
theorem gapOf_len (a m : Int) (s : SpanV) : (gapOf a m s).length ≤ 1 := by unfold gapOf; split <;> simp
theorem notTo_len (most : Int) (F : List SpanV) (k : Nat) : (notTo most F k).length ≤ k := by
  induction k with
  | zero => simp [notTo]
  | succ k ih =>
    rw [notTo, List.length_append]
    split
    · have := gapOf_len (natAt (F.take k)) most ‹_›; omega
    · simp; omega
/-- What is in none of a list, up to most. -/
def notP (most : Int) (L : List SpanV) (x : Int) : Bool := decide (0 ≤ x) && decide (x ≤ most) && !hasB L x
theorem notTo_ok {most : Int} {F : List SpanV} (hF : NF F) (hm : 0 ≤ most ∧ most < 4294967296) : ∀ k, k ≤ F.length →
    NF (notTo most F k) ∧ (∀ a ∈ notTo most F k, a.hi + 1 < natAt (F.take k)) ∧ ∀ x, hasB (notTo most F k) x = (notP most (F.take k) x && decide (x < natAt (F.take k))) := by
  intro k
  induction k with
  | zero =>
    intro _
    refine ⟨trivial, fun a ha => by simp [notTo] at ha, fun x => ?_⟩
    by_cases h0 : 0 ≤ x
    · have h1 : ¬ x < 0 := by omega
      simp [notTo, hasB_nil, natAt, h1]
    · simp [notTo, hasB_nil, notP, natAt, h0]
  | succ k ih =>
    intro hk
    obtain ⟨h1, h2, h3⟩ := ih (by omega)
    obtain ⟨s, hs⟩ : ∃ s, F[k]? = some s := ⟨_, List.getElem?_eq_getElem (by omega)⟩
    have hsv : s.lo ≤ s.hi := hF.ok s (List.mem_of_getElem? hs)
    have hat := hF.at_le hs
    have hat0 := (natAt_range (F := F.take k)).1
    rw [notTo_succ hs, natAt_succ hs]
    have hin : ∀ x, hasB (F.take k) x = true → x < natAt (F.take k) := fun x hx => hasB_natAt (hF.take k) hx
    generalize natAt (F.take k) = A at *
    have hmem : ∀ x, hasB (notTo most F k ++ gapOf A most s) x = (notP most (F.take (k + 1)) x && decide (x < s.hi + 1)) := by
      intro x
      have hin := hin x
      rw [hasB_append, h3, notP, notP, hasB_take_succ hs]
      have hg : hasB (gapOf A most s) x = (decide (A ≤ x) && decide (x < s.lo) && decide (x ≤ most)) := by
        unfold gapOf
        split
        · rw [hasB_one, Bool.eq_iff_iff, inB_iff]
          simp
          show A ≤ x ∧ x ≤ min (s.lo - 1) most ↔ _
          omega
        · rw [hasB_nil]
          simp
          omega
      rw [hg]
      have hi : s.inB x = (decide (s.lo ≤ x) && decide (x ≤ s.hi)) := rfl
      rw [hi]
      cases hx : hasB (F.take k) x with
      | true =>
        have := hin hx
        simp
        omega
      | false =>
        rw [Bool.eq_iff_iff]
        simp
        omega
    refine ⟨?_, ?_, hmem⟩
    · by_cases hg : 0 ≤ A ∧ A < s.lo ∧ A ≤ most ∧ most < 4294967296
      · rw [gapOf, dif_pos hg]
        refine NF.snoc.2 ⟨h1, ?_, fun a ha => h2 a ha⟩
        show A ≤ min (s.lo - 1) most
        omega
      · rw [gapOf, dif_neg hg, List.append_nil]
        exact h1
    · intro a ha
      rcases List.mem_append.1 ha with ha | ha
      · have := h2 a ha; omega
      · unfold gapOf at ha
        split at ha
        · obtain rfl := List.mem_singleton.1 ha
          show min (s.lo - 1) most + 1 < _
          omega
        · simp at ha
theorem notAll_ok {most : Int} {F : List SpanV} (hF : NF F) (hm : 0 ≤ most ∧ most < 4294967296) : NF (notAll most F) ∧ ∀ x, hasB (notAll most F) x = notP most F x := by
  obtain ⟨h1, h2, h3⟩ := notTo_ok hF hm F.length (Nat.le_refl _)
  rw [List.take_length] at h2 h3
  have hat0 := (natAt_range (F := F)).1
  have hin : ∀ x, hasB F x = true → x < natAt F := fun x hx => hasB_natAt hF hx
  unfold notAll
  generalize natAt F = A at *
  refine ⟨?_, fun x => ?_⟩
  · unfold lastOf
    split
    · rename_i hg
      exact NF.snoc.2 ⟨h1, hg.2.1, fun a ha => h2 a ha⟩
    · rw [List.append_nil]; exact h1
  · rw [hasB_append, h3]
    have hg : hasB (lastOf A most) x = (decide (A ≤ x) && decide (x ≤ most)) := by
      unfold lastOf
      split
      · rw [hasB_one, Bool.eq_iff_iff, inB_iff]; simp
      · rw [hasB_nil]; simp; intro _; omega
    rw [hg]
    have hin := hin x
    unfold notP
    cases hx : hasB F x with
    | true => have := hin hx; simp; omega
    | false => rw [Bool.eq_iff_iff]; simp; omega
theorem notP_form (most : Int) (L : List SpanV) : notP most (formOf L) = notP most L := by
  funext x; unfold notP; rw [(formOf_ok L).2]
theorem theSet_not {most : Int} (hm : 0 ≤ most ∧ most < 4294967296) (L : List SpanV) : theSet (notP most L) = notAll most (formOf L) := by
  obtain ⟨h1, h2⟩ := notAll_ok (formOf_ok L).1 hm
  exact theSet_eq h1 (fun x => by rw [h2, notP_form])

end Go.Proofs.YtpmoepipoafegaaGreatDoor

/-
  What is read of the text of a set, as one function: no program in sight.
-/
namespace Go.Proofs.YtpmoepipoafegaaGreatDoor
open Go Go.RowKit Go.Sort

theorem joinC_join : ∀ (L : List (List UInt8)), joinC L = Lib.join L [44]
  | [] => rfl
  | [x] => (Lib.join_one x [44]).symm
  | x :: y :: r => by
    rw [joinC, joinC_join (y :: r), Lib.join_cons, Lib.join_cons]
    simp [Lib.joinTail]
theorem joinC_snoc : ∀ (L : List (List UInt8)) (x : List UInt8), joinC (L ++ [x]) = if L = [] then x else joinC L ++ 44 :: x
  | [], x => rfl
  | [y], x => by simp [joinC]
  | y :: z :: r, x => by
    have h := joinC_snoc (z :: r) x
    rw [if_neg (by simp)] at h ⊢
    rw [List.cons_append, List.cons_append, joinC, ← List.cons_append, h]
    simp [joinC]
/-- The span of two numbers. -/
def spOf (x : Nat × Nat) : SpanV := if h : x.1 ≤ x.2 ∧ x.2 < 4294967296 then spanOf x h else default
theorem spOf_ok {x : Nat × Nat} (h : x.1 ≤ x.2 ∧ x.2 < 4294967296) : (spOf x).two = x ∧ (spOf x).lo = x.1 ∧ (spOf x).hi = x.2 := by
  unfold spOf
  rw [dif_pos h]
  exact ⟨spanOf_two x h, rfl, rfl⟩
theorem spOf_two {s : SpanV} (h : s.lo ≤ s.hi) : spOf s.two = s := by
  have h1 := s.hlo
  have h2 := s.hhi
  have h3 : s.two.1 ≤ s.two.2 ∧ s.two.2 < 4294967296 := by unfold SpanV.two; dsimp only; omega
  exact two_inj (spOf_ok h3).1
theorem spOf_map {L : List SpanV} (h : ∀ s ∈ L, s.lo ≤ s.hi) : (L.map SpanV.two).map spOf = L := by
  induction L with
  | nil => rfl
  | cons s r ih =>
    rw [List.map_cons, List.map_cons, spOf_two (h s (by simp)), ih (fun x hx => h x (List.mem_cons_of_mem _ hx))]
/-- What is read of a text. -/
noncomputable def setP (s : List UInt8) : Option (List SpanV) :=
  if s = [45] then some [] else match readL (pieces 44 s) with
    | some l => if setT (formOf (l.map spOf)) = s then some (l.map spOf) else none
    | none => none
noncomputable def setL (s : List UInt8) : List SpanV := (setP s).getD []
noncomputable def setE (s : List UInt8) : Int := if (setP s).isSome then 0 else 4
theorem set_none {s : List UInt8} (h : setP s = none) : setL s = [] ∧ setE s = 4 := by unfold setL setE; rw [h]; exact ⟨rfl, rfl⟩
theorem set_some {s : List UInt8} {L : List SpanV} (h : setP s = some L) : setL s = L ∧ setE s = 0 := by unfold setL setE; rw [h]; exact ⟨rfl, rfl⟩
theorem setP_dash : setP [45] = some [] := by unfold setP; rw [if_pos rfl]
theorem setP_bad {s : List UInt8} (hs : s ≠ [45]) (h : readL (pieces 44 s) = none) : setP s = none := by unfold setP; rw [if_neg hs, h]
theorem setP_ne {s : List UInt8} {L : List SpanV} (hs : s ≠ [45]) (h : readL (pieces 44 s) = some (L.map SpanV.two)) (hL : ∀ x ∈ L, x.lo ≤ x.hi) (ht : setT (formOf L) ≠ s) : setP s = none := by
  unfold setP
  rw [if_neg hs, h]
  dsimp only
  rw [spOf_map hL, if_neg ht]
theorem setP_yes {s : List UInt8} {L : List SpanV} (hs : s ≠ [45]) (h : readL (pieces 44 s) = some (L.map SpanV.two)) (hL : ∀ x ∈ L, x.lo ≤ x.hi) (ht : setT (formOf L) = s) : setP s = some L := by
  unfold setP
  rw [if_neg hs, h]
  dsimp only
  rw [spOf_map hL, if_pos ht]
theorem formOf_NF (L : List SpanV) : NF (formOf L) := (formOf_ok L).1
theorem formOf_nil : formOf [] = [] := theSet_eq trivial (fun _ => rfl)
/-- A list that was read is in its form, and the text is its. -/
theorem setP_form {s : List UInt8} {L : List SpanV} (h : setP s = some L) : formOf L = L ∧ setT L = s := by
  unfold setP at h
  split at h
  · rename_i hs
    injection h with h
    subst h
    exact ⟨formOf_nil, by rw [hs]; rfl⟩
  · rename_i hs
    split at h
    · rename_i l hl
      split at h
      · rename_i ht
        injection h with h
        obtain ⟨M, hM, hk⟩ := readL_spans hl
        have e : l.map spOf = M := by rw [hM, spOf_map hk]
        rw [e] at ht h
        subst h
        rw [hM] at hl
        have := read_form hs hl (fun x hx => (formOf_NF M).ok x hx) ht
        exact ⟨this.symm, by rw [← this] at ht; exact ht⟩
      · cases h
    · cases h
theorem setT_ne {F : List SpanV} (h : F ≠ []) (hF : ∀ x ∈ F, x.lo ≤ x.hi) : setT F ≠ [45] := by
  intro e
  have h1 := setT_pieces h
  rw [e] at h1
  obtain ⟨s, r, rfl⟩ := List.exists_cons_of_ne_nil h
  rw [pieces_none (by decide), List.map_cons] at h1
  injection h1 with h1 _
  have h2 := wordO_t (hF s (by simp))
  rw [← h1] at h2
  have h3 : wordO [45] = none := by decide
  rw [h3] at h2
  cases h2
/-- The text of a set in its form is read to it. -/
theorem setP_text {F : List SpanV} (hn : NF F) (hf : formOf F = F) : setP (setT F) = some F := by
  by_cases h : F = []
  · subst h; exact setP_dash
  · exact setP_yes (setT_ne h hn.ok) (read_back h hn.ok) hn.ok (by rw [hf])
/-- What the document's words refuse, the program refuses. -/
theorem setP_badD {s : List UInt8} (hs : s ≠ [45]) (h : readD (pieces 44 s) = none) : setP s = none := by
  cases e : setP s with
  | none => rfl
  | some L =>
    obtain ⟨h1, h2⟩ := setP_form e
    have hn : NF L := by rw [← h1]; exact formOf_NF L
    have hne : L ≠ [] := fun e => hs (by rw [← h2, e]; rfl)
    rw [← h2, setT_pieces hne, readD_t L hn.ok] at h
    cases h
theorem setL_NF (s : List UInt8) : formOf (setL s) = setL s := by
  cases e : setP s with
  | none => rw [(set_none e).1]; exact formOf_nil
  | some L => rw [(set_some e).1]; exact (setP_form e).1
/-- How far the words have been read. -/
def RInv (rd : List (List UInt8) → Option (List (Nat × Nat))) (ws rest : List (List UInt8)) (L : List SpanV) : Prop := rd ws = (rd rest).map fun r => L.map SpanV.two ++ r
theorem rinv_start (rd) (ws : List (List UInt8)) : RInv rd ws ws [] := by
  unfold RInv
  cases rd ws <;> simp
theorem rinvL_bad {ws r : List (List UInt8)} {w : List UInt8} {L : List SpanV} (h : RInv readL ws (w :: r) L) (hw : wordO w = none) : readL ws = none := by
  unfold RInv at h
  rw [h, readL, hw]
  rfl
theorem rinvL_next {ws r : List (List UInt8)} {w : List UInt8} {L : List SpanV} {x : Nat × Nat} (h : RInv readL ws (w :: r) L) (hw : wordO w = some x) : RInv readL ws r (L ++ [spOf x]) := by
  unfold RInv at *
  rw [h, readL, hw]
  have hx := (spOf_ok (wordO_ok hw)).1
  cases readL r with
  | none => rfl
  | some l => simp [hx]
theorem rinvD_bad {ws r : List (List UInt8)} {w : List UInt8} {L : List SpanV} (h : RInv readD ws (w :: r) L) (hw : wordD w = none) : readD ws = none := by
  unfold RInv at h
  rw [h, readD, hw]
  rfl
theorem rinvD_next {ws r : List (List UInt8)} {w : List UInt8} {L : List SpanV} {x : Nat × Nat} (h : RInv readD ws (w :: r) L) (hw : wordD w = some x) : RInv readD ws r (L ++ [spOf x]) := by
  unfold RInv at *
  rw [h, readD, hw]
  have hx := (spOf_ok (wordO_ok (wordD_O hw))).1
  cases readD r with
  | none => rfl
  | some l => simp [hx]
theorem rinvL_end {ws : List (List UInt8)} {L : List SpanV} (h : RInv readL ws [] L) : readL ws = some (L.map SpanV.two) := by
  unfold RInv at h
  rw [h]
  simp [readL]
theorem rinvD_end {ws : List (List UInt8)} {L : List SpanV} (h : RInv readD ws [] L) : readD ws = some (L.map SpanV.two) := by
  unfold RInv at h
  rw [h]
  simp [readD]
theorem read_ok {ws : List (List UInt8)} {L : List SpanV} (h : readL ws = some (L.map SpanV.two)) : ∀ s ∈ L, s.lo ≤ s.hi := by
  obtain ⟨M, hM, hk⟩ := readL_spans h
  rw [map_two_inj hM]
  exact hk
/-- A span's text as the program puts it together. -/
def tB (s : SpanV) : ByteArray := ⟨s.t.toArray⟩
theorem dec32 {n : Nat} (h : n < 4294967296) : (Lib.decDigits n).length ≤ 10 := by
  have : ∀ k n : Nat, n < 10 ^ (k + 1) → (Lib.decDigits n).length ≤ k + 1 := by
    intro k
    induction k with
    | zero => intro n h; rw [decDigits_small (by simpa using h)]; simp
    | succ k ih =>
      intro n h
      by_cases h9 : n < 10
      · rw [decDigits_small h9]; simp
      · rw [decDigits_big h9, List.length_append]
        have := ih (n / 10) (by rw [Nat.pow_succ] at h; omega)
        simp; omega
  exact this 9 n (Nat.lt_of_lt_of_le h (by decide))
theorem t_len (s : SpanV) : s.t.length ≤ 21 := by
  have := s.hlo
  have := s.hhi
  have h1 := dec32 (n := s.lo.toNat) (by omega)
  have h2 := dec32 (n := s.hi.toNat) (by omega)
  unfold SpanV.t
  split
  · omega
  · simp; omega
theorem t_ne (s : SpanV) : s.t ≠ [] := by
  unfold SpanV.t
  split
  · exact decDigits_ne_nil _
  · simp
theorem joinC_len : ∀ (F : List SpanV), (joinC (F.map SpanV.t)).length ≤ 22 * F.length
  | [] => by simp [joinC]
  | [s] => by have := t_len s; simp [joinC]; omega
  | s :: u :: r => by
    have h1 := t_len s
    have h2 := joinC_len (u :: r)
    simp only [List.map_cons, joinC, List.length_append, List.length_cons] at *
    omega
theorem setT_cons {F : List SpanV} (h : F ≠ []) : setT F = joinC (F.map SpanV.t) := by unfold setT; rw [if_neg h]
theorem joinC_ne {F : List SpanV} (h : F ≠ []) : joinC (F.map SpanV.t) ≠ [] := by
  match F, h with
  | [s], _ => exact t_ne s
  | s :: u :: r, _ => simp [joinC]
theorem setT_len (F : List SpanV) : (setT F).length ≤ 22 * F.length + 1 := by
  by_cases h : F = []
  · subst h; decide
  · rw [setT_cons h]; have := joinC_len F; omega
end Go.Proofs.YtpmoepipoafegaaGreatDoor

/-
  A region that draws its order, with a head whose operations are quiet in a class of worlds and a tail in one forced order: no program in sight.
-/
namespace Go.Proofs.YtpmoepipoafegaaGreatDoor
open Go Go.Sort

section
variable {P : Program} {ops : Array Oper} {md : Region.Mode} {C : World → Prop}
/-- The head, in whatever order, up to L. -/
def headQ (P : Program) (md : Region.Mode) (ops : Array Oper) (C : World → Prop) (n : Nat) (L : Array Bool → Act → Prop) : Nat → Array Bool → Act → Prop
  | 0, listed, a => L listed a
  | f + 1, listed, a => Region.ready md ops listed ≠ [] ∧ ∀ i, i ∈ Region.ready md ops listed → i < n ∧ qOp P ops C i (headQ P md ops C n L f (listed.setIfInBounds i true)) a
theorem any_of_headQ {n g : Nat} {L : Array Bool → Act → Prop} {K : Exit → Act → World → Prop} (hL : ∀ listed a w, C w → L listed a → wpAny P md ops K g listed a w) :
    ∀ (f : Nat) (listed : Array Bool) (a : Act) (w : World), C w → headQ P md ops C n L f listed a → wpAny P md ops K (f + g) listed a w
  | 0, listed, a, w, hw, h => by rw [Nat.zero_add]; exact hL _ _ _ hw h
  | f + 1, listed, a, w, hw, h => by
    have e : f + 1 + g = (f + g) + 1 := by omega
    rw [e]
    refine ⟨fun hn => absurd hn h.1, fun i hi => wpOp_of_qOp hw (fun a' w' hw' h' => any_of_headQ hL f _ a' w' hw' h') (h.2 i hi).2⟩
/-- An operation of the head that is ready may be taken first. -/
theorem headQ_first {n i : Nat} {oi : Oper} {v : Value} {L : Array Bool → Act → Prop} (hi : ops[i]? = some oi) (hsel : ∀ (j : Nat) (o : Oper) cs b, ops[j]? = some o → o.op ≠ .select cs b)
    (hs : Region.sinkB md ops n = true) (hc : Region.chainB md ops n = true) (hn : n < ops.size) (hin : i < n) (hend : ∀ listed a, L listed a → ∀ j ∈ Region.ready md ops listed, n ≤ j)
    (f : Nat) : ∀ (listed : Array Bool) (a : Act), HeadInv md ops n listed →
      (∀ j oj, ops[j]? = some oj → j ≠ i → listed.getD j true = false → (∀ e ∈ oj.after, Region.binds md e = true → e.on ≠ i) → oi.apart ops oj = true) →
      i ∈ Region.ready md ops listed → YieldsIn P ops C oi v a → headQ P md ops C n L f (listed.setIfInBounds i true) (a.put oi.dst v) → headQ P md ops C n L (f + 1) listed a := by
  induction f with
  | zero =>
    intro listed a inv _ hr hy H
    have hlow : ∀ j ∈ Region.ready md ops listed, j < n := fun j hj => (Nat.lt_or_ge j n).elim id fun h => absurd hj (tail_waits hs hc hn inv _ i rfl hin (mem_ready.1 hr).1 j h)
    refine ⟨fun h => (by rw [h] at hr; cases hr), fun j hj => ⟨hlow j hj, ?_⟩⟩
    by_cases hji : j = i
    · subst hji
      exact hy.qOp hi H
    · have h1 := hend _ _ H j (ready_mono hj hji)
      have h2 := hlow j hj
      omega
  | succ f ih =>
    intro listed a inv hfree hr hy H
    have hun := (mem_ready.1 hr).1
    have hlow : ∀ j ∈ Region.ready md ops listed, j < n := fun j hj => (Nat.lt_or_ge j n).elim id fun h => absurd hj (tail_waits hs hc hn inv _ i rfl hin hun j h)
    refine ⟨fun h => (by rw [h] at hr; cases hr), fun j hj => ⟨hlow j hj, ?_⟩⟩
    by_cases hji : j = i
    · subst hji
      exact hy.qOp hi H
    · obtain ⟨hjun, oj, hoj, hall⟩ := mem_ready.1 hj
      have hnot : ∀ e ∈ oj.after, Region.binds md e = true → e.on ≠ i := by
        intro e he hb heq
        have h1 := hall e he hb
        rw [heq, getD_both hun] at h1
        cases h1
      have hput := qOp_put hoj (hfree j oj hoj hji hjun hnot) (fun cs b => hsel i oi cs b hi) (fun cs b => hsel j oj cs b hoj) hy (H.2 j (ready_mono hj hji)).2
      refine qOp_mono (fun a' h3 => ih (listed.setIfInBounds j true) a' (inv.set hj (hlow j hj)) ?_ (ready_mono hr (Ne.symm hji)) h3.1 ?_) hput
      · intro k ok hk hki hku hno
        refine hfree k ok hk hki ?_ hno
        by_cases hjk : j = k
        · subst hjk; exact hjun
        · rw [getD_set_ne true hjk] at hku; exact hku
      · rw [Array.setIfInBounds_comm _ _ hji]
        exact h3.2
theorem headQ_lex {n g : Nat} {Lq : Act → Prop} (hsel : Region.noSelect ops = true) (hs : Region.sinkB md ops n = true) (hc : Region.chainB md ops n = true) (hn : n < ops.size) :
    ∀ (l : List Oper) (k : Nat) (listed : Array Bool) (a : Act), (∀ j, j < l.length → l[j]? = ops[k + j]?) → k + l.length = n → HeadInv md ops n listed →
    Region.lexHead md ops g l.length k listed = true → wpQuiet P ops C Lq l a →
    headQ P md ops C n (fun listed' a' => Region.seqB md ops g n listed' = true ∧ Lq a') l.length listed a := by
  intro l
  induction l with
  | nil =>
    intro k listed a _ hk _ hB h
    obtain rfl : k = n := by simpa using hk
    exact ⟨by simpa [Region.lexHead] using hB, h⟩
  | cons o l ih =>
    intro k listed a hl hk inv hB h
    have h0 : ops[k]? = some o := by simpa using (hl 0 (by simp)).symm
    simp only [List.length_cons, Region.lexHead, Bool.and_eq_true] at hB
    obtain ⟨⟨hr, hf⟩, hB'⟩ := hB
    have hkn : k < n := by simp only [List.length_cons] at hk; omega
    have hr' : k ∈ Region.ready md ops listed := by simpa using hr
    obtain ⟨v, hy, hK⟩ := yieldsIn_of_qOp (C := C) (P := P) (K := wpQuiet P ops C Lq l) h0 (by unfold qOp; simp only [h0]; exact h)
    refine headQ_first h0 (Region.noSelect_spec hsel) hs hc hn hkn (fun listed' a' hL => seqB_ready hL.1) l.length listed a inv (Region.free_spec h0 hf) hr' hy (ih (k + 1) _ _ (fun j hj => ?_) (by simp only [List.length_cons] at hk; omega) (inv.set hr' hkn) hB' hK)
    have h1 := hl (j + 1) (by simp; omega)
    simpa [Nat.add_assoc, Nat.add_comm 1 j] using h1
/-- A head that is quiet in the class, then the tail in its order, in any world of the class. -/
theorem wp_region_quiet_tail {id : Nat} {Q : Exit → Act → World → Prop} {a : Act} {w : World} {l : List Oper} (n : Nat) (hm : P.follows .mixedOrders = true) (hB : Region.lexTailB .any l.toArray n = true) (hC : C { w with drawn := w.drawn + 1 })
    (h : wpQuiet P l.toArray C (fun a' => ∀ w', C w' → wpList P l.toArray Q (l.drop n) a' w') (l.take n) a) : (Code.region id l.toArray true).wp P Q a w := by
  simp only [Region.lexTailB, Bool.and_eq_true, decide_eq_true_eq] at hB
  obtain ⟨⟨⟨⟨hsel, hn⟩, hs⟩, hc⟩, hlex⟩ := hB
  have hn' : n < l.length := by simpa using hn
  have htl : (l.take n).length = n := by simp; omega
  have hdl : (l.drop n).length = l.toArray.size - n := by simp
  have inv0 : HeadInv .any l.toArray n (Array.replicate l.toArray.size false) :=
    ⟨by simp, fun j oj _ hl => (by rw [getD_replicate_false] at hl; cases hl), fun t _ ht => getD_in (by simpa using ht) (getD_replicate_false _ _)⟩
  have H := headQ_lex (C := C) (P := P) (md := .any) (g := l.toArray.size - n) hsel hs hc hn (l.take n) 0 (Array.replicate l.toArray.size false) a (fun j hj => by
    have hj' : j < n := by rw [htl] at hj; exact hj
    simp [hj']) (by simpa using htl) inv0 (by rw [htl]; exact hlex) h
  refine wp_region_any hm ?_
  have H2 := any_of_headQ (K := Q) (g := l.toArray.size - n) (fun listed a' w' hw' hL => by
    have h2 := wpAny_of_seq (P := P) (Q' := Q) (l.drop n) n listed a' w' (fun j => by simp) (by rw [hdl]; exact hL.1) (hL.2 w' hw')
    rw [hdl] at h2
    exact h2) (l.take n).length (Array.replicate l.toArray.size false) a { w with drawn := w.drawn + 1 } hC H
  have e : (l.take n).length + (l.toArray.size - n) = l.toArray.size := by rw [htl]; simp; omega
  rw [e] at H2
  exact H2
/-- The same at the class of the worlds that are drawn and grown. -/
theorem wp_region_tail_below {id : Nat} {Q : Exit → Act → World → Prop} {a : Act} {w : World} {l : List Oper} (n : Nat) (hm : P.follows .mixedOrders = true) (hB : Region.lexTailB .any l.toArray n = true)
    (h : wpQuiet P l.toArray (fun w' => ∃ p : Regrown, w' = grow (redrawn w p.d) p.os) (fun a' => ∀ w', (∃ p : Regrown, w' = grow (redrawn w p.d) p.os) → wpList P l.toArray Q (l.drop n) a' w') (l.take n) a) : (Code.region id l.toArray true).wp P Q a w :=
  wp_region_quiet_tail (C := fun w' => ∃ p : Regrown, w' = grow (redrawn w p.d) p.os) n hm hB ⟨⟨w.drawn + 1, #[]⟩, by rw [grow_empty]; rfl⟩ h
end
end Go.Proofs.YtpmoepipoafegaaGreatDoor

/-
  Walks over the filter's layer: a span's text; and what the walk of a rule's text needs.
-/
namespace Go.Proofs.YtpmoepipoafegaaGreatDoor
open Go Go.RowKit Go.Sort

@[reducible] def StrR (f : FuncId) (args : Array Value) (t : ByteArray) (W : World) : Prop := ∀ d os, Calls Tryz.prog f args (grow (redrawn W d) os) fun e w' => e = .returned (.string t) ∧ Below (grow (redrawn W d) os).heap.size (grow (redrawn W d) os) w'
theorem dec_size5 {n : Int} (h : n < 4294967296) : (⟨(Lib.decDigits n.toNat).toArray⟩ : ByteArray).size ≤ 10 := by
  show (Lib.decDigits n.toNat).toArray.size ≤ 10
  have h1 := dec32 (n := n.toNat) (by omega)
  simpa using h1
theorem portT_size {lo hi : Int} (h1 : lo < 4294967296) (h2 : hi < 4294967296) : (⟨(portT lo hi).toArray⟩ : ByteArray).size ≤ 21 := by
  show (portT lo hi).toArray.size ≤ 21
  have k1 := dec32 (n := lo.toNat) (by omega)
  have k2 := dec32 (n := hi.toNat) (by omega)
  unfold portT
  simp
  omega
theorem fmtI_any (n : Int) (h0 : 0 ≤ n) (h1 : n < 4294967296) (w : World) (hE : Env w) :
    Calls Tryz.prog 31 #[.int .u64 n, .int .i64 10] w fun e w' => e = .returned (.string ⟨(Lib.decDigits n.toNat).toArray⟩) ∧ Below w.heap.size w w' := by
  obtain ⟨u, rfl⟩ := Int.eq_ofNat_of_zero_le h0
  exact fmtUint_any u (by omega) w hE
theorem prefI_any (a n : Int) (ha : 0 ≤ a ∧ a < 4294967296) (h0 : -9223372036854775808 ≤ n) (h1 : n ≤ 9223372036854775807) (w : World) (hE : Env w) :
    Calls Tryz.prog 19 #[.agg #[.int .u32 a, .int .i64 n]] w fun e w' => e = .returned (.string ⟨(prefT a n).toArray⟩) ∧ Below w.heap.size w w' := by
  obtain ⟨a, rfl⟩ := Int.eq_ofNat_of_zero_le ha.1
  have h := prefixText_any a n (by omega) h0 h1 w hE
  have e : (⟨(prefT (a : Int) n).toArray⟩ : ByteArray) = textP a n := byte_ext (by simp [prefT])
  rw [e]
  exact h
theorem rule_blk {w : World} {g : Nat} {r : RuleV} {t : TypeId} (h : w.heap[g]? = some (.cells #[.bool r.permit, .int .i64 r.proto, .int .u32 r.sa, .int .i64 r.sn, .int .u32 r.da, .int .i64 r.dn, .int .u32 r.sl, .int .u32 r.sh, .int .u32 r.dl, .int .u32 r.dh] t (0, 0))) :
    w.cell? ⟨g, 0, none⟩ = some (.bool r.permit) ∧ w.cell? ⟨g, 1, none⟩ = some (.int .i64 r.proto) ∧ w.cell? ⟨g, 2, none⟩ = some (.int .u32 r.sa) ∧ w.cell? ⟨g, 3, none⟩ = some (.int .i64 r.sn) ∧ w.cell? ⟨g, 4, none⟩ = some (.int .u32 r.da) ∧ w.cell? ⟨g, 5, none⟩ = some (.int .i64 r.dn) ∧ w.cell? ⟨g, 6, none⟩ = some (.int .u32 r.sl) ∧ w.cell? ⟨g, 7, none⟩ = some (.int .u32 r.sh) ∧ w.cell? ⟨g, 8, none⟩ = some (.int .u32 r.dl) ∧ w.cell? ⟨g, 9, none⟩ = some (.int .u32 r.dh) :=
  ⟨cell_of_row w g 0 _ t (0, 0) h, cell_of_row w g 1 _ t (0, 0) h, cell_of_row w g 2 _ t (0, 0) h, cell_of_row w g 3 _ t (0, 0) h, cell_of_row w g 4 _ t (0, 0) h, cell_of_row w g 5 _ t (0, 0) h, cell_of_row w g 6 _ t (0, 0) h, cell_of_row w g 7 _ t (0, 0) h, cell_of_row w g 8 _ t (0, 0) h, cell_of_row w g 9 _ t (0, 0) h⟩
/-- Words with a blank between two. -/
def joinB32 : List (List UInt8) → List UInt8
  | [] => []
  | [x] => x
  | x :: y :: r => x ++ 32 :: joinB32 (y :: r)
theorem joinC_join32 : ∀ (L : List (List UInt8)), joinB32 L = Lib.join L [32]
  | [] => rfl
  | [x] => (Lib.join_one x [32]).symm
  | x :: y :: r => by
    rw [joinB32, joinC_join32 (y :: r), Lib.join_cons, Lib.join_cons]
    simp [Lib.joinTail]
theorem prefT_len {a n : Int} (h0 : 0 ≤ n) (h1 : n ≤ 32) : (prefT a n).length ≤ 26 := by
  have e : (textA a.toNat).data.toList.length = (textA a.toNat).size := Array.length_toList
  have k1 := textA_size a.toNat
  have k2 := dec32 (n := n.toNat) (by omega)
  rw [prefT_nat h0, List.length_append, List.length_cons]
  omega
theorem portT_len {lo hi : Int} (h1 : lo < 4294967296) (h2 : hi < 4294967296) : (portT lo hi).length ≤ 21 := by
  have k1 := dec32 (n := lo.toNat) (by omega)
  have k2 := dec32 (n := hi.toNat) (by omega)
  unfold portT
  simp
  omega
theorem words_len (r : RuleV) (w1 w2 : List UInt8) (h1 : w1.length ≤ 20) (h2 : w2.length ≤ 20) (k0 : 0 ≤ r.sn) (k1 : r.sn ≤ 32) (k2 : 0 ≤ r.dn) (k3 : r.dn ≤ 32) :
    (Lib.join [w1, w2, prefT r.sa r.sn, prefT r.da r.dn, portT r.sl r.sh, portT r.dl r.dh] [32]).length ≤ 140737488355328 := by
  have a1 := prefT_len (a := r.sa) k0 k1
  have a2 := prefT_len (a := r.da) k2 k3
  have a3 := portT_len r.hsl.2 r.hsh.2
  have a4 := portT_len r.hdl.2 r.hdh.2
  rw [← joinC_join32]
  simp only [joinB32, List.length_append, List.length_cons]
  omega
theorem itoaN_any (n : Int) (h0 : 0 ≤ n) (h1 : n ≤ 9223372036854775807) (w : World) (hE : Env w) :
    Calls Tryz.prog 20 #[.int .i64 n] w fun e w' => e = .returned (.string ⟨(Lib.decDigits n.toNat).toArray⟩) ∧ Below w.heap.size w w' := by
  refine (Tryz.strconv_Itoa n (by omega) h1 w hE.tab).mono ?_
  rintro e w2 ⟨rfl, h⟩
  refine ⟨?_, below_of_grow h⟩
  obtain ⟨k, rfl⟩ := Int.eq_ofNat_of_zero_le h0
  rw [Lib.itoa_nonneg, Int.toNat_natCast]
theorem below_drew {B : Nat} {w V : World} (h : Below B w V) : Below B w V.drew := ⟨h.os, h.tape, h.output, h.size, h.block⟩
theorem cell_kept {V V' : World} {a : Addr} {v : Value} (h : Below V.heap.size V V') (c : V.cell? a = some v) : V'.cell? a = some v := (h.cell (block_lt_of_cell c)).trans c
/-- Words joined by blanks. -/
theorem joinW_any (L : List ByteArray) (g : Nat) (V : World) (h : V.heap[g]? = some (.cells (L.map Value.string).toArray 9 (0, 0))) (hpos : 0 < L.length) (hn : L.length ≤ 1000000) (hj : (Lib.join (L.map (·.data.toList)) [32]).length ≤ 140737488355328) :
    Calls Tryz.prog 52 #[.slice (some ⟨g, 0, none⟩) L.length L.length, .string ⟨#[32]⟩] V fun e V' => e = .returned (.string ⟨(Lib.join (L.map (·.data.toList)) [32]).toArray⟩) ∧ Below V.heap.size V V' := by
  have hJ := Tryz.strings_Join g 0 L.length L ⟨#[32]⟩ V (fun j x hj => by rw [Nat.zero_add]; exact cells_str h hj) (lt_of_block h) (by omega) (by omega) hj
  exact hJ
end Go.Proofs.YtpmoepipoafegaaGreatDoor

/-
  The text of a route, and the route of a text: plain laws; no walk.
-/
namespace Go.Proofs.YtpmoepipoafegaaGreatDoor
open Go Go.RowKit Go.Sort

/-- A route. -/
structure RtV where
  a : Int
  m : Int
  fr : Int
  di : Int
  me : Int
  ta : Int
  nm : List UInt8
  ho : Int
  dc : Bool
  ha : 0 ≤ a ∧ a < 4294967296
  hm : -9223372036854775808 ≤ m ∧ m ≤ 9223372036854775807
  hfr : 0 ≤ fr ∧ fr < 256
  hdi : -9223372036854775808 ≤ di ∧ di ≤ 9223372036854775807
  hme : -9223372036854775808 ≤ me ∧ me ≤ 9223372036854775807
  hta : -9223372036854775808 ≤ ta ∧ ta ≤ 9223372036854775807
  hho : 0 ≤ ho ∧ ho < 4294967296
instance : Inhabited RtV := ⟨⟨0, 0, 0, 0, 0, 0, [], 0, false, by omega, by omega, by omega, by omega, by omega, by omega, by omega⟩⟩
def connW : List UInt8 := [99, 111, 110, 110, 101, 99, 116, 101, 100]
def writW : List UInt8 := [119, 114, 105, 116, 116, 101, 110]
def intraW : List UInt8 := [105, 110, 116, 114, 97]
def interW : List UInt8 := [105, 110, 116, 101, 114]
def ext1W : List UInt8 := [101, 120, 116, 101, 114, 110, 97, 108, 49]
def ext2W : List UInt8 := [101, 120, 116, 101, 114, 110, 97, 108, 50]
def ebgpW : List UInt8 := [101, 98, 103, 112]
def ibgpW : List UInt8 := [105, 98, 103, 112]
def viaW : List UInt8 := [118, 105, 97]
def onW : List UInt8 := [111, 110]
def discW : List UInt8 := [100, 105, 115, 99, 97, 114, 100]
/-- The words of where routes come from. -/
def fromsL : List (List UInt8) := [[], connW, writW, intraW, interW, ext1W, ext2W, ebgpW, ibgpW]
def fromW (f : Int) : List UInt8 := fromsL[f.toNat]?.getD []
def letB (c : UInt8) : Bool := (decide (97 ≤ c.toNat) && decide (c.toNat ≤ 122)) || (decide (65 ≤ c.toNat) && decide (c.toNat ≤ 90))
def restB (c : UInt8) : Bool := (decide (48 ≤ c.toNat) && decide (c.toNat ≤ 57)) || decide (c.toNat = 45) || decide (c.toNat = 95) || decide (c.toNat = 46) || decide (c.toNat = 47)
/-- Is it a name? -/
def nameB (l : List UInt8) : Bool := match l with
  | [] => false
  | c :: r => decide (l.length ≤ 32) && letB c && r.all fun x => letB x || restB x
def fineB (n : Int) : Bool := decide (0 ≤ n) && decide (n ≤ 2147483647)
/-- May the route be written? -/
def RtV.ok (r : RtV) : Bool := decide (chk r.a r.m = 0) && decide (1 ≤ r.fr) && decide (r.fr ≤ 8) && fineB r.di && fineB r.me && fineB r.ta && (decide (r.nm = []) || nameB r.nm) && (!r.dc || (decide (r.ho = 0) && decide (r.nm = [])))
def RtV.hopW (r : RtV) : List (List UInt8) := if r.ho = 0 then [] else [viaW, (textA r.ho.toNat).data.toList]
def RtV.nmW (r : RtV) : List (List UInt8) := if r.nm = [] then [] else [onW, r.nm]
def RtV.dcW (r : RtV) : List (List UInt8) := if r.dc then [discW] else []
def RtV.words (r : RtV) : List (List UInt8) := [prefT r.a r.m, fromW r.fr, Lib.decDigits r.di.toNat, Lib.decDigits r.me.toNat, Lib.decDigits r.ta.toNat] ++ (r.hopW ++ (r.nmW ++ r.dcW))
def RtV.text (r : RtV) : List UInt8 := Lib.join r.words [32]
theorem fine_iff {n : Int} : fineB n = true ↔ 0 ≤ n ∧ n ≤ 2147483647 := by simp [fineB]
theorem rt_ok {r : RtV} (h : r.ok = true) : chk r.a r.m = 0 ∧ 1 ≤ r.fr ∧ r.fr ≤ 8 ∧ (0 ≤ r.di ∧ r.di ≤ 2147483647) ∧ (0 ≤ r.me ∧ r.me ≤ 2147483647) ∧ (0 ≤ r.ta ∧ r.ta ≤ 2147483647) ∧ (r.nm = [] ∨ nameB r.nm = true) ∧ (r.dc = true → r.ho = 0 ∧ r.nm = []) := by
  simp only [RtV.ok, Bool.and_eq_true, decide_eq_true_eq, fine_iff, Bool.or_eq_true, Bool.not_eq_true'] at h
  obtain ⟨⟨⟨⟨⟨⟨⟨h1, h2⟩, h3⟩, h4⟩, h5⟩, h6⟩, h7⟩, h8⟩ := h
  refine ⟨h1, h2, h3, h4, h5, h6, h7, fun hd => ?_⟩
  rcases h8 with h8 | h8
  · rw [hd] at h8; cases h8
  · exact h8
theorem name_no {l : List UInt8} (h : nameB l = true) : (32 : UInt8) ∉ l := by
  match l, h with
  | c :: r, h =>
    simp only [nameB, Bool.and_eq_true, List.all_eq_true] at h
    intro hm
    rcases List.mem_cons.1 hm with rfl | hm
    · exact absurd h.1.2 (by decide)
    · exact absurd (h.2 _ hm) (by decide)
theorem from_cases {f : Int} (h1 : 1 ≤ f) (h2 : f ≤ 8) : f = 1 ∨ f = 2 ∨ f = 3 ∨ f = 4 ∨ f = 5 ∨ f = 6 ∨ f = 7 ∨ f = 8 := by omega
theorem from_no {f : Int} (h1 : 1 ≤ f) (h2 : f ≤ 8) : (32 : UInt8) ∉ fromW f := by
  rcases from_cases h1 h2 with rfl | rfl | rfl | rfl | rfl | rfl | rfl | rfl <;> decide
theorem rt_words_no {r : RtV} (h : r.ok = true) : ∀ x ∈ r.words, (32 : UInt8) ∉ x := by
  obtain ⟨h1, h2, h3, h4, h5, h6, h7, h8⟩ := rt_ok h
  have k1 := chk_ok h1
  intro x hx
  simp only [RtV.words, List.mem_append, List.mem_cons, List.not_mem_nil, or_false] at hx
  rcases hx with (rfl | rfl | rfl | rfl | rfl) | hx | hx | hx
  · exact prefT_no k1.1
  · exact from_no h2 h3
  · exact not_dec (by decide) _
  · exact not_dec (by decide) _
  · exact not_dec (by decide) _
  · unfold RtV.hopW at hx
    split at hx
    · cases hx
    · simp only [List.mem_cons, List.not_mem_nil, or_false] at hx
      rcases hx with rfl | rfl
      · decide
      · exact not_text (by decide) (by decide) _
  · unfold RtV.nmW at hx
    split at hx
    · cases hx
    · rename_i hne
      simp only [List.mem_cons, List.not_mem_nil, or_false] at hx
      rcases hx with rfl | rfl
      · decide
      · rcases h7 with h7 | h7
        · exact absurd h7 hne
        · exact name_no h7
  · unfold RtV.dcW at hx
    split at hx
    · simp only [List.mem_cons, List.not_mem_nil, or_false] at hx
      rw [hx]; decide
    · cases hx
theorem rt_words {r : RtV} (h : r.ok = true) : pieces 32 r.text = r.words := pieces_joinL 32 _ (by simp [RtV.words]) (rt_words_no h)
theorem rt_ext {r q : RtV} (h0 : r.a = q.a) (h1 : r.m = q.m) (h2 : r.fr = q.fr) (h3 : r.di = q.di) (h4 : r.me = q.me) (h5 : r.ta = q.ta) (h6 : r.nm = q.nm) (h7 : r.ho = q.ho) (h8 : r.dc = q.dc) : r = q := by
  cases r; cases q; simp_all
/-- The number of a word as the program reads it. -/
def num31 (w : List UInt8) : Int := match Lib.parseUintB 31 w with | .ok n => n | _ => -1
/-- What is read of the words behind the first five: hop, name, discard. -/
def restR (w : List (List UInt8)) : Int × List UInt8 × Bool :=
  let h : Int × List (List UInt8) := match w with
    | v :: x :: t => if v = viaW then (adV (parseB x), t) else (0, w)
    | _ => (0, w)
  let n : List UInt8 × List (List UInt8) := match h.2 with
    | v :: x :: t => if v = onW then (x, t) else ([], h.2)
    | _ => ([], h.2)
  (h.1, n.1, !n.2.isEmpty)
/-- The index of a word among those of where routes come from; 0, if it is none. -/
def fromI (w : List UInt8) : Int := ((fromsL.idxOf? w).getD 0 : Nat)
theorem fromI_W {f : Int} (h1 : 1 ≤ f) (h2 : f ≤ 8) : fromI (fromW f) = f := by
  rcases from_cases h1 h2 with rfl | rfl | rfl | rfl | rfl | rfl | rfl | rfl <;> decide
theorem uint31_digits {n : Nat} (h : n < 2147483648) : Lib.parseUintB 31 (Lib.decDigits n) = .ok n := uint_digits (by decide) (by rw [show (2 : Nat) ^ 31 - 1 = 2147483647 from rfl]; omega)
theorem uint31_le {l : List UInt8} {n : Nat} (h : Lib.parseUintB 31 l = .ok n) : n < 2147483648 := by
  have := Lib.parseUintB_le h
  have e : (2 : Nat) ^ 31 - 1 = 2147483647 := by decide
  omega
theorem num31_dec {n : Int} (h0 : 0 ≤ n) (h1 : n ≤ 2147483647) : num31 (Lib.decDigits n.toNat) = n := by
  unfold num31
  rw [uint31_digits (by omega)]
  show ((n.toNat : Nat) : Int) = n
  omega
theorem num31_lt (w : List UInt8) : -1 ≤ num31 w ∧ num31 w ≤ 2147483647 := by
  unfold num31
  split
  · rename_i n h
    have := uint31_le h
    omega
  · omega
theorem fromI_lt (w : List UInt8) : 0 ≤ fromI w ∧ fromI w < 9 := by
  unfold fromI
  cases h : fromsL.idxOf? w with
  | none => simp
  | some k =>
    have : k < fromsL.length := by
      rw [List.idxOf?, List.findIdx?_eq_some_iff_getElem] at h
      exact h.1
    have e : fromsL.length = 9 := rfl
    simp only [Option.getD_some]
    omega
theorem adV_lt (l : List UInt8) : 0 ≤ adV (parseB l) ∧ adV (parseB l) < 4294967296 := by
  cases h : parseB l with
  | none => simp [adV]
  | some n =>
    have := parseB_lt h
    simp only [adV, Option.getD_some]
    omega
theorem adV_text {a : Int} (h0 : 0 ≤ a) (h1 : a < 4294967296) : adV (parseB (textA a.toNat).data.toList) = a := by
  rw [parse_text _ (by omega)]
  show ((a.toNat : Nat) : Int) = a
  omega
theorem restR_lt (w : List (List UInt8)) : 0 ≤ (restR w).1 ∧ (restR w).1 < 4294967296 := by
  unfold restR
  match w with
  | [] => simp
  | [v] => simp
  | v :: x :: t =>
    by_cases h : v = viaW
    · simp only [h, if_true]
      exact adV_lt x
    · simp only [if_neg h]
      omega
/-- The route that is read of the words w0 .. w4 and of what is behind them. -/
def candR (w0 w1 w2 w3 w4 : List UInt8) (rest : List (List UInt8)) : RtV where
  a := ppA w0
  m := ppN w0
  fr := fromI w1
  di := num31 w2
  me := num31 w3
  ta := num31 w4
  nm := (restR rest).2.1
  ho := (restR rest).1
  dc := (restR rest).2.2
  ha := ppA_lt w0
  hm := by have := ppN_range w0; omega
  hfr := by have := fromI_lt w1; omega
  hdi := by have := num31_lt w2; omega
  hme := by have := num31_lt w3; omega
  hta := by have := num31_lt w4; omega
  hho := restR_lt rest
theorem on_via : onW ≠ viaW := by decide
theorem restR_words {r : RtV} (h : r.ok = true) : restR (r.hopW ++ (r.nmW ++ r.dcW)) = (r.ho, r.nm, r.dc) := by
  obtain ⟨_, _, _, _, _, _, h7, h8⟩ := rt_ok h
  have hh := r.hho
  have e := adV_text hh.1 hh.2
  have k1 : onW ≠ viaW := by decide
  have k2 : discW ≠ viaW := by decide
  have k3 : discW ≠ onW := by decide
  unfold RtV.hopW RtV.nmW RtV.dcW
  by_cases h0 : r.ho = 0 <;> by_cases hn : r.nm = [] <;> cases hd : r.dc <;> simp_all [restR]
theorem candR_words {r : RtV} (h : r.ok = true) : candR (prefT r.a r.m) (fromW r.fr) (Lib.decDigits r.di.toNat) (Lib.decDigits r.me.toNat) (Lib.decDigits r.ta.toNat) (r.hopW ++ (r.nmW ++ r.dcW)) = r := by
  obtain ⟨h1, h2, h3, h4, h5, h6, h7, h8⟩ := rt_ok h
  have a1 := ppO_T r.ha.1 r.ha.2 h1
  have a2 := restR_words h
  refine rt_ext a1.1 a1.2.1 (fromI_W h2 h3) (num31_dec h4.1 h4.2) (num31_dec h5.1 h5.2) (num31_dec h6.1 h6.2) ?_ ?_ ?_
  · show (restR _).2.1 = _; rw [a2]
  · show (restR _).1 = _; rw [a2]
  · show (restR _).2.2 = _; rw [a2]
theorem rt_five {r : RtV} (h : r.ok = true) : ppE (prefT r.a r.m) = 0 := (ppO_T r.ha.1 r.ha.2 (rt_ok h).1).2.2
theorem rt_inj {r q : RtV} (h : r.ok = true) (hq : q.ok = true) (e : r.text = q.text) : r = q := by
  have w := rt_words h
  rw [e, rt_words hq] at w
  unfold RtV.words at w
  simp only [List.cons_append, List.nil_append] at w
  injection w with w0 w
  injection w with w1 w
  injection w with w2 w
  injection w with w3 w
  injection w with w4 w
  rw [← candR_words h, ← candR_words hq, w0, w1, w2, w3, w4, w]
open Classical in
/-- The route that a text is the text of. -/
noncomputable def roO (l : List UInt8) : Option RtV := if h : ∃ r : RtV, r.ok = true ∧ r.text = l then some h.choose else none
theorem roO_text {r : RtV} (h : r.ok = true) : roO r.text = some r := by
  have he : ∃ q : RtV, q.ok = true ∧ q.text = r.text := ⟨r, h, rfl⟩
  unfold roO
  rw [dif_pos he, rt_inj he.choose_spec.1 h he.choose_spec.2]
theorem roO_some {l : List UInt8} {r : RtV} (h : roO l = some r) : r.ok = true ∧ r.text = l := by
  unfold roO at h
  split at h
  · rename_i he
    injection h with h
    rw [← h]
    exact he.choose_spec
  · cases h
theorem roO_no {l : List UInt8} (h : ∀ r : RtV, r.ok = true → r.text = l → False) : roO l = none := by
  cases e : roO l with
  | none => rfl
  | some r => exact (h r (roO_some e).1 (roO_some e).2).elim
theorem rt_len {r : RtV} {l : List UInt8} (h : r.ok = true) (hl : r.text = l) : 5 ≤ (pieces 32 l).length := by
  rw [← hl, rt_words h]
  simp [RtV.words]
theorem roO_len {l : List UInt8} (h : (pieces 32 l).length < 5) : roO l = none := roO_no fun _ h1 h2 => by have := rt_len h1 h2; omega
theorem roO_cand {l w0 w1 w2 w3 w4 : List UInt8} {rest : List (List UInt8)} (hp : pieces 32 l = w0 :: w1 :: w2 :: w3 :: w4 :: rest) :
    roO l = if ppE w0 = 0 ∧ (candR w0 w1 w2 w3 w4 rest).ok = true ∧ (candR w0 w1 w2 w3 w4 rest).text = l then some (candR w0 w1 w2 w3 w4 rest) else none := by
  split
  · rename_i h
    have e := roO_text h.2.1
    rw [h.2.2] at e
    exact e
  · rename_i h
    refine roO_no fun r hr ht => h ?_
    have w := rt_words hr
    rw [ht, hp] at w
    unfold RtV.words at w
    simp only [List.cons_append, List.nil_append] at w
    injection w with w0 w
    injection w with w1 w
    injection w with w2 w
    injection w with w3 w
    injection w with w4 w
    subst w0 w1 w2 w3 w4 w
    rw [candR_words hr]
    exact ⟨rt_five hr, hr, ht⟩
/-- What Parse answers. -/
noncomputable def roV (l : List UInt8) : RtV := (roO l).getD default
noncomputable def roE (l : List UInt8) : Int := if (roO l).isSome then 0 else 4
theorem ro_none {l : List UInt8} (h : roO l = none) : roV l = default ∧ roE l = 4 := by unfold roV roE; rw [h]; exact ⟨rfl, rfl⟩
theorem ro_some {l : List UInt8} {r : RtV} (h : roO l = some r) : roV l = r ∧ roE l = 0 := by unfold roV roE; rw [h]; exact ⟨rfl, rfl⟩
end Go.Proofs.YtpmoepipoafegaaGreatDoor

/-
  Walks over the layer of routes: fine, froms, line, side.
-/
namespace Go.Proofs.YtpmoepipoafegaaGreatDoor
open Go Go.RowKit Go.Lib Go.Sort

theorem fine1_any (n : Int) (w : World) : Calls Tryz.prog 49 #[.int .i64 n] w fun e w' => e = .returned (.bool (!fineB n)) ∧ w = w' := by
  by_cases h0 : n < 0
  · have d1 : decide (n < 0) = true := by simp [h0]
    have hz : fineB n = false := by unfold fineB; simp; omega
    have hzz := Lib.hid hz
    clear hz
    go_enter Tryz.func49, Tryz.ntmps49
    go_wp2
    go_ret
    exact ⟨by rw [hzz.out]; rfl, rfl⟩
  · have d1 : decide (n < 0) = false := by simp; omega
    by_cases h1 : 2147483647 < n
    · have d2 : decide (2147483647 < n) = true := by simp [h1]
      have hz : fineB n = false := by unfold fineB; simp; omega
      have hzz := Lib.hid hz
      clear hz
      go_enter Tryz.func49, Tryz.ntmps49
      go_wp2
      go_ret
      exact ⟨by rw [hzz.out]; rfl, rfl⟩
    · have d2 : decide (2147483647 < n) = false := by simp; omega
      have hz : fineB n = true := by unfold fineB; simp; omega
      have hzz := Lib.hid hz
      clear hz
      go_enter Tryz.func49, Tryz.ntmps49
      go_wp2
      go_ret
      exact ⟨by rw [hzz.out]; rfl, rfl⟩
set_option maxHeartbeats 1000000 in
theorem fineIdx_any (L : List Int) (v : Value) (w : World) (h : Rd w w.heap.size 1 v L.length (L.map (Value.int .i64))) (hlen : L.length ≤ 1000000) :
    Calls Tryz.prog 61 #[v, .func (.func 49) #[] #[]] w fun e w' => (∃ i : Int, e = .returned (.int .i64 i) ∧ decide (0 ≤ i) = !(L.all fineB)) ∧ Below w.heap.size w w' := by
  obtain ⟨A, c, rfl, _⟩ := h.form
  have HL := Lib.hid h
  clear h
  go_enter Tryz.func61, Tryz.ntmps61
  go_wp2
  go_loopw [8] (fun i wr => ∃ j : Nat, i = .int .i64 j ∧ j ≤ L.length ∧ Hid ((L.take j).all fineB = true) ∧ Below w.heap.size w wr) (fun i _ => L.length - (intOf i).toNat)
  case atStart => exact ⟨0, rfl, by omega, Lib.hid (by simp), Below.refl _ _⟩
  case round =>
    obtain ⟨j, rfl, hj, ha, hnx⟩ := hrel
    have hsz := hnx.size
    by_cases hlt : j < L.length
    · have hI : (j : Int) < (L.length : Int) := by omega
      obtain ⟨x, hx⟩ : ∃ x, L[j]? = some x := ⟨_, List.getElem?_eq_getElem hlt⟩
      obtain ⟨b, off, c', hv, _, hbB, hcell⟩ := (HL.out.below hnx).posAt (by omega)
      injection hv with hv1 _ hv3
      subst hv1 hv3
      have f0 : wr.cell? ⟨b, off + j, none⟩ = some (.int .i64 x) := by
        have h := hcell j 0 (.int .i64 x) (by simp [hx])
        simpa using h
      have ht := Lib.hid (show (L.take (j + 1)).all fineB = fineB x by rw [List.take_add_one, hx, List.all_append, ha.out]; simp)
      have hd := Lib.hid (show fineB x = false → L.all fineB = false from fun h => by
        cases e : L.all fineB with
        | false => rfl
        | true => have := List.all_eq_true.1 e x (List.mem_of_getElem? hx); rw [h] at this; cases this)
      have hc := Lib.hid (fine1_any x wr)
      clear hcell hx ha
      cases hf : fineB x with
      | true =>
        rw [hf] at hc ht
        go_wp2_with fail
        refine hc.out.mono ?_
        rintro e w2 ⟨rfl, rfl⟩
        go_wp2
        exact ⟨⟨j + 1, by go_num, by omega, ht, hnx⟩, by simp only [intOf]; omega⟩
      | false =>
        rw [hf] at hc
        have hz := hd.out hf
        have hzz := Lib.hid hz
        clear hz
        go_wp2_with fail
        refine hc.out.mono ?_
        rintro e w2 ⟨rfl, rfl⟩
        go_wp2
        go_ret
        exact ⟨⟨_, rfl, by rw [hzz.out]; simp⟩, hnx⟩
    · obtain rfl : j = L.length := by omega
      have hI : ¬ (L.length : Int) < (L.length : Int) := by omega
      have hz := ha.out
      rw [List.take_length] at hz
      have hzz := Lib.hid hz
      clear hz ha
      go_wp2
      go_ret
      exact ⟨⟨_, rfl, by rw [hzz.out]; decide⟩, hnx⟩
set_option maxHeartbeats 1000000 in
theorem fine_any (L : List Int) (v : Value) (w : World) (h : Rd w w.heap.size 1 v L.length (L.map (Value.int .i64))) (hlen : L.length ≤ 1000000) :
    Calls Tryz.prog 17 #[v] w fun e w' => e = .returned (.bool (L.all fineB)) ∧ Below w.heap.size w w' := by
  have hi := Lib.hid (fineIdx_any L v w h hlen)
  have hc : Calls Tryz.prog 48 #[v, .func (.func 49) #[] #[]] w fun e w' => e = .returned (.bool (!(L.all fineB))) ∧ Below w.heap.size w w' := by
    go_enter Tryz.func48, Tryz.ntmps48
    go_wp2_with fail
    refine hi.out.mono ?_
    rintro e w1 ⟨⟨i, rfl, hd⟩, hb⟩
    have HD := Lib.hid hd
    go_wp2
    go_ret
    exact ⟨by rw [← HD.out]; rfl, hb⟩
  have HC := Lib.hid hc
  clear hc hi h
  go_enter Tryz.func17, Tryz.ntmps17
  go_wp2_with fail
  refine HC.out.mono ?_
  rintro e w1 ⟨rfl, hb⟩
  go_wp2
  go_ret
  exact ⟨by simp, hb⟩
def fromsBlk : Array Value := (fromsL.map fun l => Value.string ⟨l.toArray⟩).toArray
theorem froms_any (w : World) : Calls Tryz.prog 16 #[] w fun e w' => e = .returned (.slice (some ⟨w.heap.size, 0, none⟩) 9 9) ∧ w' = w.alloc (.cells fromsBlk 9) := by
  go_enter Tryz.func16, Tryz.ntmps16
  go_wp2
  go_ret
  exact ⟨rfl, rfl⟩
theorem side_any (b : Bool) (w : World) : Calls Tryz.prog 30 #[.bool b] w fun e w' => e = .returned (.string ⟨(if b then [101, 120, 116, 101, 114, 110, 97, 108] else [105, 110, 116, 101, 114, 110, 97, 108] : List UInt8).toArray⟩) ∧ w = w' := by
  go_enter Tryz.func30, Tryz.ntmps30
  cases b
  all_goals (go_wp2; go_ret; exact ⟨rfl, rfl⟩)
theorem line_any (L : List ByteArray) (g : Nat) (V : World) (h : V.heap[g]? = some (.cells (L.map Value.string).toArray 9 (0, 0))) (hpos : 0 < L.length) (hn : L.length ≤ 1000000) (hj : (Lib.join (L.map (·.data.toList)) [32]).length ≤ 140737488355328) :
    Calls Tryz.prog 22 #[.slice (some ⟨g, 0, none⟩) L.length L.length] V fun e V' => e = .returned (.string ⟨(Lib.join (L.map (·.data.toList)) [32]).toArray⟩) ∧ Below V.heap.size V V' := by
  have hJ := Lib.hid (joinW_any L g V h hpos hn hj)
  clear h hj
  go_enter Tryz.func22, Tryz.ntmps22
  go_wp2_with fail
  refine hJ.out.mono ?_
  rintro e w1 ⟨rfl, hb⟩
  go_wp2
  go_ret
  exact ⟨rfl, hb⟩
end Go.Proofs.YtpmoepipoafegaaGreatDoor

/-
  A region that draws its order, walked in the order of the text: plain operations, each of which may be taken first, and barriers, each of which comes up alone: no program in sight.
-/
namespace Go.Proofs.YtpmoepipoafegaaGreatDoor
open Go Go.RowKit Go.Sort

section
variable {P : Program} {ops : Array Oper} {md : Region.Mode} {S : World → Prop} {Q : Exit → Act → World → Prop}
/-- An operation that hands back a value, or stops. -/
def plainB : Op → Bool
  | .move _ | .assign _ | .pick _ _ _ | .load _ _ | .fieldAddr _ _ _ | .indexAddr _ _ _ | .binOp _ _ _ _ _ | .unOp _ _ _ | .convert _ _ _ | .build _ _ | .extract _ _ => true
  | _ => false
theorem then_value {α : Type} {r : Result α} {f : α → Value} {n : Go.Next} {w' : World} (h : (r.andThen fun x v => .ok (Go.Next.value (f x)) v) = .ok n w') : ∃ v, n = .value v := by
  cases r with
  | ok x v => simp only [Result.andThen_ok] at h; injection h with h _; exact ⟨_, h.symm⟩
  | halt x v => cases h
theorem plain_value {o : Oper} (h : plainB o.op = true) {ρ : Operand → Value} {w w' : World} {n : Go.Next} (hr : (execOp ρ o).run P w = .ok n w') : ∃ v, n = .value v := by
  obtain ⟨dst, op, type, pos, after, guard⟩ := o
  cases op <;> simp only [plainB] at h
  all_goals first
    | (cases h; done)
    | (simp only [execOp, Sem.run_bind, Sem.run_pure] at hr; first | exact then_value (f := fun x => x) hr | exact then_value hr | (injection hr with hr _; exact ⟨_, hr.symm⟩))
theorem yields_quiet {o : Oper} {a : Act} {K : Act → Prop} (h : plainB o.op = true) (hq : o.quiet P a S K) : ∃ v, (∀ w, S w → (execOp a.eval o).run P w = .ok (.value v) w) ∧ K (a.put o.dst v) := by
  obtain ⟨v, h1, h2⟩ := hq
  refine ⟨v, fun w hw => ?_, h2⟩
  have h3 := h1 w hw
  unfold Oper.quietAt at h3
  generalize hr : (execOp a.eval o).run P w = r at h3
  cases r with
  | ok n w' =>
    obtain ⟨u, rfl⟩ := plain_value h hr
    simp only [Oper.quietUpon] at h3
    rw [h3.1, h3.2]
  | halt x w' => simp only [Oper.quietUpon] at h3
/-- The region's edges bear this walk: a plain operation may be taken first, a barrier comes up alone. -/
def mixB (md : Region.Mode) (ops : Array Oper) : List (Nat × Bool) → Array Bool → Bool
  | [], listed => (Region.ready md ops listed).isEmpty
  | (k, false) :: m, listed => (Region.ready md ops listed).contains k && Region.free md ops listed k && (match ops[k]? with | some o => plainB o.op | none => false) && mixB md ops m (listed.setIfInBounds k true)
  | (k, true) :: m, listed => decide (Region.ready md ops listed = [k]) && mixB md ops m (listed.setIfInBounds k true)
/-- The walk; behind a barrier the class of worlds may be made narrower. -/
def mixW (P : Program) (ops : Array Oper) (Q : Exit → Act → World → Prop) : List (Nat × Bool) → (World → Prop) → Act → World → Prop
  | [], _, a, w => Q .normal a w
  | (k, false) :: m, S, a, w => ∃ o, ops[k]? = some o ∧ if Region.wanted o (yielded ops a.tmps) then o.quiet P a S (fun a' => mixW P ops Q m S a' w) else mixW P ops Q m S (a.put o.dst undef) w
  | (k, true) :: m, S, a, w => ∃ o, ops[k]? = some o ∧ if Region.wanted o (yielded ops a.tmps) then o.wp P a w (fun a' w' => ∃ S' : World → Prop, S' w' ∧ (∀ v, S' v → S v) ∧ mixW P ops Q m S' a' w') Q else mixW P ops Q m S (a.put o.dst undef) w
theorem wpAnyH_class {S S' : World → Prop} (h : ∀ v, S' v → S v) : ∀ (fuel : Nat) (listed : Array Bool) (a : Act) (w : World), wpAnyH P md ops Q S' fuel listed a w → wpAnyH P md ops Q S fuel listed a w
  | 0, _, _, _, hh => hh
  | f + 1, _, _, _, hh => ⟨hh.1, fun i hi => wpOp_mono (fun a' w' hk => ⟨h _ hk.1, wpAnyH_class h f _ a' w' hk.2⟩) (hh.2 i hi)⟩
theorem mix_sound (hs : Region.noSelect ops = true) (hQ : ∀ d v c a w, Q (.panic c) (Act.put a d v) w → Q (.panic c) a w) :
    ∀ (m : List (Nat × Bool)) (S : World → Prop) (listed : Array Bool) (a : Act) (w : World), mixB md ops m listed = true → S w → mixW P ops Q m S a w → wpAnyH P md ops Q S m.length listed a w := by
  intro m
  induction m with
  | nil =>
    intro S listed a w hB _ h
    exact ⟨by simpa [mixB] using hB, h⟩
  | cons b m ih =>
    intro S listed a w hB hS h
    obtain ⟨k, b⟩ := b
    cases b with
    | false =>
      simp only [mixW] at h
      obtain ⟨o, h0, h⟩ := h
      simp only [mixB, Bool.and_eq_true, h0] at hB
      obtain ⟨⟨⟨hr, hf⟩, hp⟩, hB'⟩ := hB
      by_cases hw : Region.wanted o (yielded ops a.tmps) = true
      · rw [if_pos hw] at h
        obtain ⟨v, hv, hK⟩ := yields_quiet hp h
        exact wpAnyH_take h0 hs hf hr (fun c a w => hQ o.dst v c a w) (.inl ⟨hw, hv⟩) hS (ih S _ _ w hB' hS hK)
      · rw [if_neg hw] at h
        exact wpAnyH_take h0 hs hf hr (fun c a w => hQ o.dst undef c a w) (.inr ⟨by simpa using hw, rfl⟩) hS (ih S _ _ w hB' hS h)
    | true =>
      simp only [mixW] at h
      obtain ⟨o, h0, h⟩ := h
      simp only [mixB, Bool.and_eq_true, decide_eq_true_eq] at hB
      obtain ⟨hr, hB'⟩ := hB
      refine wpAnyH_all hr (by simp) fun i hi => ?_
      obtain rfl : i = k := by simpa using hi
      unfold wpOp
      simp only [h0]
      by_cases hw : Region.wanted o (yielded ops a.tmps) = true
      · rw [if_pos hw] at h ⊢
        refine .inl (Oper.wp_mono (fun a' w' hh => ?_) h)
        obtain ⟨S', h1, h2, h3⟩ := hh
        exact ⟨h2 _ h1, wpAnyH_class h2 _ _ _ _ (ih S' _ a' w' hB' h1 h3)⟩
      · rw [if_neg hw] at h ⊢
        exact ⟨hS, ih S _ _ w hB' hS h⟩
/-- Some plain operations in a row, as a quiet walk. -/
theorem mix_seg {m : List (Nat × Bool)} : ∀ (ks : List Nat) (seg : List Oper) (a : Act) (w : World), ks.map (fun k => ops[k]?) = seg.map some → wpQuiet P ops S (fun a' => mixW P ops Q m S a' w) seg a → mixW P ops Q (ks.map (fun k => (k, false)) ++ m) S a w
  | [], [], _, _, _, h => h
  | [], _ :: _, _, _, hk, _ => by cases hk
  | _ :: _, [], _, _, hk, _ => by cases hk
  | k :: ks, o :: seg, a, w, hk, h => by
    simp only [List.map_cons] at hk
    injection hk with hk1 hk2
    have h' : (if Region.wanted o (yielded ops a.tmps) then o.quiet P a S (wpQuiet P ops S (fun a' => mixW P ops Q m S a' w) seg) else wpQuiet P ops S (fun a' => mixW P ops Q m S a' w) seg (a.put o.dst undef)) := h
    show ∃ o, ops[k]? = some o ∧ (if Region.wanted o (yielded ops a.tmps) then o.quiet P a S (fun a' => mixW P ops Q (ks.map (fun k => (k, false)) ++ m) S a' w) else mixW P ops Q (ks.map (fun k => (k, false)) ++ m) S (a.put o.dst undef) w)
    refine ⟨o, hk1, ?_⟩
    split
    · rename_i hw
      rw [if_pos hw] at h'
      exact Oper.quiet_mono (fun a' hh => mix_seg ks seg a' w hk2 hh) h'
    · rename_i hw
      rw [if_neg hw] at h'
      exact mix_seg ks seg _ w hk2 h'
def mixOk (l : List Oper) (m : List (Nat × Bool)) : Bool := Region.noSelect l.toArray && decide (m.length = l.length) && mixB .any l.toArray m (Array.replicate l.length false)
/-- The worlds that are W, drawn and grown. -/
@[reducible] def ClassOf (W : World) : World → Prop := fun w' => ∃ p : Regrown, w' = grow (redrawn W p.d) p.os
theorem class_sub {W V : World} (h : Below W.heap.size W V) : ∀ v, ClassOf V v → ClassOf W v := by
  rintro v ⟨p, rfl⟩
  exact regrown_of_below (h.trans ((below_regrown V p.d p.os).mono h.size))
theorem class_self (V : World) : ClassOf V V := regrown_of_below (Below.refl _ _)
theorem wp_region_mix {id : Nat} {a : Act} {w : World} {l : List Oper} (m : List (Nat × Bool)) (hm : P.follows .mixedOrders = true) (hB : mixOk l m = true)
    (h : mixW P l.toArray (NoPanic Q) m (fun w' => ∃ p : Regrown, w' = grow (redrawn w p.d) p.os) a { w with drawn := w.drawn + 1 }) : (Code.region id l.toArray true).wp P Q a w := by
  simp only [mixOk, Bool.and_eq_true, decide_eq_true_eq] at hB
  obtain ⟨⟨hs, hlen⟩, hmix⟩ := hB
  refine wp_region_noPanic (wp_region_held (S := fun w' => ∃ p : Regrown, w' = grow (redrawn w p.d) p.os) hm ?_)
  have H := mix_sound (md := .any) hs (fun d v c a w hh => hh) m _ (Array.replicate l.length false) a { w with drawn := w.drawn + 1 } hmix ⟨⟨w.drawn + 1, #[]⟩, by rw [grow_empty]; rfl⟩ h
  rw [hlen] at H
  simpa using H
theorem mix_take {m m' : List (Nat × Bool)} {a : Act} {w : World} (ks : List Nat) (seg : List Oper) (hm : m = ks.map (fun k => (k, false)) ++ m') (hs : ks.map (fun k => ops[k]?) = seg.map some) (h : wpQuiet P ops S (fun a' => mixW P ops Q m' S a' w) seg a) : mixW P ops Q m S a w := by
  rw [hm]
  exact mix_seg ks seg a w hs h
/-- A barrier; the class as it is. -/
theorem mix_bar {m : List (Nat × Bool)} {k : Nat} {o : Oper} {a : Act} {w : World} (ho : ops[k]? = some o) (hw : Region.wanted o (yielded ops a.tmps) = true) (h : o.wp P a w (fun a' w' => S w' ∧ mixW P ops Q m S a' w') Q) : mixW P ops Q ((k, true) :: m) S a w := by
  simp only [mixW]
  refine ⟨o, ho, ?_⟩
  rw [if_pos hw]
  exact Oper.wp_mono (fun a' w' hh => ⟨S, hh.1, fun _ h => h, hh.2⟩) h
/-- A barrier behind which the class is that of the new world. -/
theorem mix_new {m : List (Nat × Bool)} {k : Nat} {o : Oper} {a : Act} {W w : World} (ho : ops[k]? = some o) (hw : Region.wanted o (yielded ops a.tmps) = true) (h : o.wp P a w (fun a' w' => Below W.heap.size W w' ∧ mixW P ops Q m (fun v => ∃ p : Regrown, v = grow (redrawn w' p.d) p.os) a' w') Q) : mixW P ops Q ((k, true) :: m) (fun v => ∃ p : Regrown, v = grow (redrawn W p.d) p.os) a w := by
  simp only [mixW]
  refine ⟨o, ho, ?_⟩
  rw [if_pos hw]
  exact Oper.wp_mono (fun a' w' hh => ⟨_, class_self w', class_sub hh.1, hh.2⟩) h
theorem mix_not {m : List (Nat × Bool)} {k : Nat} {o : Oper} {a : Act} {w : World} (ho : ops[k]? = some o) (hw : Region.wanted o (yielded ops a.tmps) = false) (h : mixW P ops Q m S (a.put o.dst undef) w) : mixW P ops Q ((k, true) :: m) S a w := by
  simp only [mixW]
  refine ⟨o, ho, ?_⟩
  rw [if_neg (by rw [hw]; exact Bool.false_ne_true)]
  exact h
theorem mix_end {a : Act} {w : World} (h : Q .normal a w) : mixW P ops (NoPanic Q) [] S a w := h
theorem below_drawn (w : World) : Below w.heap.size w { w with drawn := w.drawn + 1 } := ⟨rfl, rfl, rfl, Nat.le_refl _, fun _ _ => rfl⟩
end
end Go.Proofs.YtpmoepipoafegaaGreatDoor

/-
  Small general lemmas, the third text: one element appended to a row of the call's own; no program in sight.
-/
namespace Go.Proofs.YtpmoepipoafegaaGreatDoor
open Go Go.RowKit

/-- One element (its cells have just been laid in a block of their own) is appended to a row of the call's own. -/
theorem wpList_push {P : Program} {ops : Array Oper} {rest : List Oper} {o : Oper} {a : Act} {Q : Exit → Act → World → Prop} (hgd : o.guard = none) (s x : Operand) (t : TypeId)
    (ho : o.op = .call { callee := .builtin .append, args := #[s, x], argTypes := #[t, t] })
    (e : TypeId) (i : TypeInfo) (z : Value) (size bytes : Nat) (ht : P.underlying t = some (.slice e)) (hi : P.info? e = some i) (hz : i.zero = some z)
    (hsize : i.size = size) (hby : i.bytes = bytes) (hzs : z.cells.size = size) (hsz : 0 < size) (hb64 : bytes ≤ 64)
    {w0 : World} {base n : Nat} {v : Value} {xs : List Value} (es : List Value) (hs : a.eval s = v) {g0 : Nat} (hx : a.eval x = .slice (some ⟨g0, 0, none⟩) 1 1) (hg0 : g0 = w0.heap.size)
    (hown : w0.ownsRow base e size v n xs) (hes : es.length = size) (h1 : ∀ u ∈ es, u.oneCell' = true) (hn : n ≤ 1099511627776) (hbase : base ≤ w0.heap.size)
    {B : Nat} {a0 : World} (hb : Below B a0 w0) (hB : B ≤ base)
    (h : ∀ v' w', w'.ownsRow base e size v' (n + 1) (xs ++ es) → Below B a0 w' → wpList P ops Q rest (a.put o.dst v') w') : wpList P ops Q (o :: rest) a (w0.alloc (.cells es.toArray e)) := by
  subst hg0
  refine wpList_append_own _ hgd s x t ho base e i z size bytes ht hi hz hsize hby hzs hsz v n xs hs (hown.alloc _) ⟨w0.heap.size, 0, none⟩ 1 1 es hx (by omega) (cells_new w0 es e) h1 (by unfold maxLen; omega) ?_ (by simp; omega) ?_
  · calc (n + 1) * bytes ≤ (1099511627776 + 1) * 64 := Nat.mul_le_mul (by omega) hb64
      _ ≤ 140737488355328 := by decide
  · intro v' w' h2 h3 _
    exact h v' w' h2 (below_row (hb.alloc (by omega) _) (hown.alloc _) h3 (by simp; omega) hB)
/-- What a row of the call's own is made of. -/
theorem owns_block {w : World} {base : Nat} {e : TypeId} {size n : Nat} {g c : Nat} {xs : List Value} (h : w.ownsRow base e size (.slice (some ⟨g, 0, none⟩) n c) n xs) :
    ∃ cur : Array Value, w.heap[g]? = some (.cells cur e (0, 0)) ∧ n ≤ c ∧ c ≤ maxLen ∧ cur.size = c * size ∧ cur.toList.take (n * size) = xs ∧ base ≤ g := by
  obtain ⟨_, h2⟩ := h
  rcases h2 with ⟨h2, _⟩ | ⟨g', cap, cur, hv, hg, hh, hnc, hcm, hcs, ht⟩
  · cases h2
  · injection hv with h1 _ h3
    injection h1 with h1
    injection h1 with h1
    subst h1 h3
    exact ⟨cur, hh, hnc, hcm, hcs, ht, hg⟩
theorem owns_of_block {w : World} {base : Nat} {e : TypeId} {size n : Nat} {g c : Nat} {cur : Array Value} {xs : List Value} (hh : w.heap[g]? = some (.cells cur e (0, 0))) (hnc : n ≤ c) (hcm : c ≤ maxLen) (hcs : cur.size = c * size) (ht : cur.toList.take (n * size) = xs) (hl : xs.length = n * size) (hg : base ≤ g) :
    w.ownsRow base e size (.slice (some ⟨g, 0, none⟩) n c) n xs := ⟨hl, .inr ⟨g, c, cur, rfl, hg, hh, hnc, hcm, hcs, ht⟩⟩
theorem owns_nil (w : World) (base : Nat) (e : TypeId) (size : Nat) : w.ownsRow base e size (.slice none 0 0) 0 [] := ⟨by simp, .inl ⟨rfl, rfl⟩⟩

end Go.Proofs.YtpmoepipoafegaaGreatDoor

/-
  Walks over the document's addresses: Parse.
-/
namespace Go.Proofs.YtpmoepipoafegaaGreatDoor
open Go Go.RowKit Go.Sort

theorem Tryz.infoStr : (Tryz.prog.info? 9).map (fun i => (i.zero, i.size, i.bytes)) = some (some (.string ByteArray.empty), 1, 16) := by kernel_rfl
def PInv (l : List UInt8) (k f : Nat) (L : List ByteArray) : Prop :=
  (k ≤ l.length ∧ f ≤ k ∧ pieces 46 l = L.map (·.data.toList) ++ pieces 46 (l.drop f) ∧ (46 : UInt8) ∉ (l.drop f).take (k - f)) ∨ (k = l.length + 1 ∧ pieces 46 l = L.map (·.data.toList))
theorem one_str (x : ByteArray) : ∀ u ∈ [Value.string x], u.oneCell' = true := by intro u hu; simp at hu; subst hu; rfl
theorem pinv_start (l : List UInt8) : PInv l 0 0 [] := Or.inl ⟨Nat.zero_le _, Nat.le_refl _, by simp, by simp⟩
theorem pinv_skip {l : List UInt8} {k f : Nat} {L : List ByteArray} {x : UInt8} (h : PInv l k f L) (hk : l[k]? = some x) (hx : x ≠ 46) : PInv l (k + 1) f L := by
  have hkl := (List.getElem?_eq_some_iff.1 hk).1
  rcases h with ⟨h1, h2, h3, h4⟩ | ⟨h1, _⟩
  · refine Or.inl ⟨by omega, by omega, h3, ?_⟩
    rw [show k + 1 - f = (k - f) + 1 by omega, List.take_add_one]
    have e : (l.drop f)[k - f]? = some x := by rw [List.getElem?_drop, show f + (k - f) = k by omega, hk]
    rw [e]
    intro h
    rcases List.mem_append.1 h with h | h
    · exact h4 h
    · simp at h; exact hx h.symm
  · omega
theorem drop_split {l : List UInt8} {k f : Nat} (hf : f ≤ k) (hk : l[k]? = some 46) : l.drop f = (l.drop f).take (k - f) ++ 46 :: l.drop (k + 1) := by
  have hkl := (List.getElem?_eq_some_iff.1 hk).1
  have e : (l.drop f).drop (k - f) = 46 :: l.drop (k + 1) := by
    rw [List.drop_drop, show f + (k - f) = k by omega, List.drop_eq_getElem_cons hkl]
    congr 1
    exact Option.some.inj ((List.getElem?_eq_getElem hkl).symm.trans hk)
  rw [← e, List.take_append_drop]
theorem pinv_cut {l : List UInt8} {k f : Nat} {L : List ByteArray} {b : ByteArray} (h : PInv l k f L) (hk : l[k]? = some 46) (hb : b.data.toList = (l.drop f).take (k - f)) : PInv l (k + 1) (k + 1) (L ++ [b]) := by
  have hkl := (List.getElem?_eq_some_iff.1 hk).1
  rcases h with ⟨h1, h2, h3, h4⟩ | ⟨h1, _⟩
  · refine Or.inl ⟨by omega, Nat.le_refl _, ?_, by simp⟩
    rw [h3, drop_split h2 hk, pieces_cons _ h4, List.map_append, List.append_assoc]
    simp [hb]
  · omega
theorem pinv_end {l : List UInt8} {f : Nat} {L : List ByteArray} {b : ByteArray} (h : PInv l l.length f L) (hb : b.data.toList = (l.drop f).take (l.length - f)) : PInv l (l.length + 1) (l.length + 1) (L ++ [b]) := by
  rcases h with ⟨h1, h2, h3, h4⟩ | ⟨h1, _⟩
  · refine Or.inr ⟨rfl, ?_⟩
    have e : (l.drop f).take (l.length - f) = l.drop f := List.take_of_length_le (by simp)
    rw [e] at h4 hb
    rw [h3, pieces_none h4, List.map_append]
    simp [hb]
  · omega
theorem pinv_done {l : List UInt8} {f : Nat} {L : List ByteArray} (h : PInv l (l.length + 1) f L) : pieces 46 l = L.map (·.data.toList) := by
  rcases h with ⟨h1, _⟩ | ⟨_, h⟩
  · omega
  · exact h

set_option maxRecDepth 100000 in
set_option maxHeartbeats 4000000 in
theorem refParse_any (s : ByteArray) (w : World) (hlim : s.size < 4294967281) :
    Calls Tryz.prog 40 #[.string s] w fun e w' => e = .returned (.tuple #[.int .u32 (adV (parseB s.data.toList)), .int .i64 (adE (parseB s.data.toList))]) ∧ Below w.heap.size w w' := by
  obtain ⟨i0, hi, hz0, hz1, hz2⟩ := info_parts Tryz.infoStr
  have HS := Lib.hid (show s.size = s.data.toList.length from (Array.length_toList).symm)
  have t9 := Tryz.underlying9
  have HQ := Lib.hid (show ∀ (i : Nat) (h : i < s.size), Hid (s.data.toList[i]? = some (s[i]'h)) from fun i h => Lib.hid (by
    rw [Array.getElem?_toList]
    exact Array.getElem?_eq_getElem (xs := s.data) (i := i) h))
  go_enter Tryz.func40, Tryz.ntmps40
  go_wp2
  go_loopw [4, 5, 6] (fun v fr i wr => ∃ (k f : Nat) (L : List ByteArray), i = .int .i64 k ∧ fr = .int .i64 f ∧ wr.ownsRow w.heap.size 9 1 v L.length (L.map Value.string) ∧ Hid (PInv s.data.toList k f L) ∧ f ≤ k ∧ k ≤ s.size + 1 ∧ L.length ≤ k ∧ Below w.heap.size w wr) (fun _ _ i _ => s.size + 1 - (intOf i).toNat)
  case atStart => exact ⟨0, 0, [], rfl, rfl, World.ownsRow_nil _ _ _ _, Lib.hid (pinv_start _), by omega, by omega, by simp, Below.refl _ _⟩
  case round =>
    obtain ⟨k, f, L, rfl, rfl, hown, hp, hf, hk, hLk, hb⟩ := hrel
    by_cases hlt : k < s.size
    · have hI3 : (k : Int) < (s.size : Int) := by omega
      have hI4 : (0 : Int) ≤ k := by omega
      have hI5 : (k : Int) ≤ (s.size : Int) := by omega
      have hI6 : ((k : Int) == (s.size : Int)) = false := by simp; omega
      have hx := HQ.out k hlt
      obtain ⟨v, hv⟩ : ∃ v : Int, ((s[k]'hlt).toNat : Int) = v := ⟨_, rfl⟩
      by_cases h46 : s[k]'hlt = 46
      · have hv2 : (v == 46) = true := by rw [← hv, h46]; rfl
        have hcut := Lib.hid (pinv_cut (b := s.extract f k) hp.out (by rw [hx.out, h46]) (by rw [Lib.extract_data]))
        clear h46 hx hp
        go_wp2_with (at_builtin; refine wpList_push rfl _ _ 45 rfl 9 i0 _ 1 16 Tryz.underlying45 hi hz0 hz1 hz2 rfl (by decide) (by decide) [.string (s.extract f k)] rfl rfl (by simp) hown rfl (one_str _) (by omega) hb.size hb (Nat.le_refl _) ?_; intro v2 w2 hown2 hb2)
        have hown3 : w2.ownsRow w.heap.size 9 1 v2 (L ++ [s.extract f k]).length ((L ++ [s.extract f k]).map Value.string) := by
          rw [List.length_append, List.map_append]; exact hown2
        clear hown2 hown
        go_wp2
        exact ⟨⟨k + 1, k + 1, L ++ [s.extract f k], by go_num, by go_num, hown3, hcut, by omega, by omega, by simp; omega, hb2⟩, by simp only [intOf]; omega⟩
      · have hv2 : (v == 46) = false := by
          simp
          intro h
          apply h46
          apply UInt8.toNat_inj.1
          have : (46 : UInt8).toNat = 46 := rfl
          omega
        have hskip := Lib.hid (pinv_skip hp.out hx.out h46)
        clear h46 hx hp
        go_wp2
        exact ⟨⟨k + 1, f, L, by go_num, rfl, hown, hskip, by omega, by omega, by omega, hb⟩, by simp only [intOf]; omega⟩
    · by_cases heq : k = s.size
      · subst heq
        have hI5 : (s.size : Int) ≤ (s.size : Int) := by omega
        have hI6 : ((s.size : Int) == (s.size : Int)) = true := by simp
        have hcut := Lib.hid (pinv_end (b := s.extract f s.size) (by have h := hp.out; rw [HS.out] at h; exact h) (by rw [Lib.extract_data, HS.out]))
        have hcut2 : Hid (PInv s.data.toList (s.size + 1) (s.size + 1) (L ++ [s.extract f s.size])) := Lib.hid (by have h := hcut.out; rw [← HS.out] at h; exact h)
        clear hcut hp hlt
        go_wp2_with (at_builtin; refine wpList_push rfl _ _ 45 rfl 9 i0 _ 1 16 Tryz.underlying45 hi hz0 hz1 hz2 rfl (by decide) (by decide) [.string (s.extract f s.size)] rfl rfl (by simp) hown rfl (one_str _) (by omega) hb.size hb (Nat.le_refl _) ?_; intro v2 w2 hown2 hb2)
        have hown3 : w2.ownsRow w.heap.size 9 1 v2 (L ++ [s.extract f s.size]).length ((L ++ [s.extract f s.size]).map Value.string) := by
          rw [List.length_append, List.map_append]; exact hown2
        clear hown2 hown
        go_wp2
        exact ⟨⟨s.size + 1, s.size + 1, L ++ [s.extract f s.size], by go_num, by go_num, hown3, hcut2, by omega, by omega, by simp; omega, hb2⟩, by simp only [intOf]; omega⟩
      · obtain rfl : k = s.size + 1 := by omega
        have hI5 : ¬ ((s.size + 1 : Nat) : Int) ≤ (s.size : Int) := by omega
        have hP := Lib.hid (pinv_done (by have h := hp.out; rw [HS.out] at h; exact h) : pieces 46 s.data.toList = L.map (·.data.toList))
        have hrd := Rd.of_own hown
        clear hp hlt heq
        obtain ⟨A, c, rfl, hcap⟩ := hrd.form
        by_cases h4 : L.length = 4
        · have hd : ((L.length : Int) != 4) = false := by simp; omega
          obtain ⟨b, off, c', hv, _, hbB, hcell⟩ := hrd.pos (by omega)
          injection hv with hv1 _ hv3
          subst hv1 hv3
          have HC := Lib.hid (show ∀ (j : Nat) (x : ByteArray), L[j]? = some x → wr.cell? ⟨b, off + j, none⟩ = some (.string x) from fun j x hx => hcell j _ (by rw [List.getElem?_map, hx]; rfl))
          have hQ := Lib.hid (parseB_four (l := s.data.toList) (by rw [hP.out]; simpa using h4))
          have HE := Lib.hid (show ∀ (k : Nat) (x : ByteArray), L[k]? = some x → (pieces 46 s.data.toList)[k]? = some x.data.toList from fun k x h => by rw [hP.out, List.getElem?_map, h]; rfl)
          clear hown hrd hcell hP
          go_wp2
          go_loop [7, 8] (fun a i => ∃ k n : Nat, i = .int .i64 k ∧ a = .int .i64 n ∧ k ≤ 4 ∧ Hid (accB (pieces 46 s.data.toList) k = some n)) (fun _ i => 4 - (intOf i).toNat)
          case atStart => exact ⟨0, 0, rfl, rfl, by omega, Lib.hid (show accB (pieces 46 s.data.toList) 0 = some 0 from rfl)⟩
          case round =>
            obtain ⟨k, n, rfl, rfl, hk4, hacc⟩ := hrel
            have hnb := accB_lt hacc.out hk4
            have hn32 : n < 4294967296 := Nat.lt_of_lt_of_le hnb (Nat.le_trans (Nat.pow_le_pow_right (by decide) hk4) (by decide))
            by_cases hk5 : k < 4
            · obtain ⟨x, hx⟩ : ∃ x, L[k]? = some x := ⟨_, List.getElem?_eq_getElem (by omega)⟩
              have hcx := HC.out k x hx
              have hpx := Lib.hid (HE.out k x hx)
              have hI7 : (k : Int) < 4 := by omega
              have hI8 : (0 : Int) ≤ k := by omega
              have hI9 : (k : Int) < (L.length : Int) := by omega
              clear hx hnb
              go_wp2_with fail
              refine (refRead_any x 255 (by omega) _).mono ?_
              rintro e w3 ⟨rfl, rfl⟩
              cases hrd : readB x.data.toList 255 with
              | none =>
                have hr := rdV_none hrd
                have hz := Lib.hid (show parseB s.data.toList = none by rw [hQ.out]; exact accB_none hpx.out hrd 4 hk5)
                clear hrd
                go_wp2
                go_ret2
                exact ⟨by rw [hz.out]; rfl, hb⟩
              | some v =>
                have hr := rdV_some hrd
                have hv := readB_le hrd
                have hstep := Lib.hid (accB_step hacc.out hpx.out hrd)
                have w1 : wrap64 (256 * (n : Int)) = 256 * (n : Int) := by unfold wrap64; omega
                have w2 : wrap64 (256 * (n : Int) + (v : Int)) = 256 * (n : Int) + (v : Int) := by unfold wrap64; omega
                have W2 := Lib.hid w2
                clear hrd
                go_wp2
                clear w1 w2
                exact ⟨⟨k + 1, n * 256 + v, by go_num, vint (by first | (rw [W2.out]; clear W2; omega) | (clear W2; omega)), by clear W2; omega, hstep⟩, by clear W2; simp only [intOf]; omega⟩
            · obtain rfl : k = 4 := by omega
              have hz := Lib.hid (show parseB s.data.toList = some n by rw [hQ.out]; exact hacc.out)
              clear hnb
              go_wp2
              go_ret2
              exact ⟨by rw [hz.out]; rfl, hb⟩
        · have hd : ((L.length : Int) != 4) = true := by simp; omega
          have hz := Lib.hid (parseB_not (l := s.data.toList) (by rw [hP.out]; simpa using h4))
          clear hown hrd h4
          go_wp2
          go_ret2
          exact ⟨by rw [hz.out]; rfl, hb⟩
end Go.Proofs.YtpmoepipoafegaaGreatDoor
