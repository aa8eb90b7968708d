/-
  The document's sets: numbers put in their place, the cuts, the set that is made from cut to cut; numbers counted. No program in sight.
-/
import Derived.Test.YthgmmajoinkblaaSpMath3
namespace Go.Proofs.Ythgmmajoinkblaa

/-- Rising, each once. -/
def Rising (l : List Int) : Prop := l.Pairwise (· < ·)
/-- A number's place: all before it are not greater, all from it on are. -/
theorem rising_put {l : List Int} (h : Rising l) {x : Int} {k : Nat} (h1 : ∀ y ∈ l.take k, y < x) (h2 : ∀ y ∈ l.drop k, x < y) :
    Rising (l.take k ++ x :: l.drop k) ∧ ∀ y, y ∈ l.take k ++ x :: l.drop k ↔ y ∈ l ∨ y = x := by
  constructor
  · unfold Rising at *
    rw [← List.take_append_drop k l, List.pairwise_append] at h
    refine List.pairwise_append.2 ⟨h.1, List.pairwise_cons.2 ⟨h2, h.2.1⟩, fun a ha b hb => ?_⟩
    rcases List.mem_cons.1 hb with rfl | hb
    · exact h1 a ha
    · exact h.2.2 a ha b hb
  · intro y
    have : y ∈ l ↔ y ∈ l.take k ∨ y ∈ l.drop k := by
      rw [← List.mem_append, List.take_append_drop]
    rw [this, List.mem_append, List.mem_cons]
    constructor
    · rintro (h | rfl | h)
      · exact .inl (.inl h)
      · exact .inr rfl
      · exact .inl (.inr h)
    · rintro ((h | h) | rfl)
      · exact .inl h
      · exact .inr (.inr h)
      · exact .inr (.inl rfl)
def isMark (most : Int) (s : SpanV) (y : Int) : Prop := s.lo ≤ s.hi ∧ (y = s.lo ∨ y = s.hi + 1) ∧ y ≤ most
/-- The cuts of sets: 0, and each mark. -/
def CutsOf (most : Int) (S : List SpanV) (C : List Int) : Prop := Rising C ∧ (∀ y ∈ C, 0 ≤ y ∧ y < 4294967296) ∧ ∀ y, y ∈ C ↔ y = 0 ∨ ∃ s ∈ S, isMark most s y
theorem CutsOf.head {most : Int} {S : List SpanV} {C : List Int} (h : CutsOf most S C) : ∃ r, C = 0 :: r := by
  have h0 : (0 : Int) ∈ C := (h.2.2 0).2 (.inl rfl)
  cases C with
  | nil => simp at h0
  | cons c r =>
    refine ⟨r, ?_⟩
    have hc := (h.2.1 c (List.mem_cons_self ..)).1
    rcases List.mem_cons.1 h0 with rfl | h0
    · rfl
    · have := (List.pairwise_cons.1 h.1).1 0 h0
      omega
/-- The end of the part that begins at the i-th cut. -/
def cutEnd (most : Int) (C : List Int) (i : Nat) : Int := match C[i]? with | some y => y | none => most + 1
theorem CutsOf.le {most : Int} (hm : 0 ≤ most) {S : List SpanV} {C : List Int} (h : CutsOf most S C) {y : Int} (hy : y ∈ C) : y ≤ most := by
  rcases (h.2.2 y).1 hy with rfl | ⟨s, _, hs⟩
  · exact hm
  · exact hs.2.2
theorem CutsOf.lt_end {most : Int} (hm : 0 ≤ most) {S : List SpanV} {C : List Int} (h : CutsOf most S C) {i : Nat} {c : Int} (hc : C[i]? = some c) : c < cutEnd most C (i + 1) := by
  unfold cutEnd
  cases hn : C[i + 1]? with
  | none => have := h.le hm (List.mem_of_getElem? hc); show c < most + 1; omega
  | some y =>
    obtain ⟨hi, e⟩ := List.getElem?_eq_some_iff.1 hc
    obtain ⟨hi2, e2⟩ := List.getElem?_eq_some_iff.1 hn
    have := List.pairwise_iff_getElem.1 h.1 i (i + 1) hi hi2 (by omega)
    show c < y
    omega
theorem CutsOf.none_between {most : Int} {S : List SpanV} {C : List Int} (h : CutsOf most S C) {i : Nat} {c y : Int} (hc : C[i]? = some c) (h1 : c < y) (h2 : y < cutEnd most C (i + 1)) : y ∉ C := by
  intro hy
  obtain ⟨j, hj, e⟩ := List.getElem_of_mem hy
  obtain ⟨hi, ei⟩ := List.getElem?_eq_some_iff.1 hc
  have hij : i < j := by
    rcases Nat.lt_trichotomy i j with h' | h' | h'
    · exact h'
    · subst h'; omega
    · have := List.pairwise_iff_getElem.1 h.1 j i hj hi h'; omega
  unfold cutEnd at h2
  have hn : C[i + 1]? = some C[i + 1] := List.getElem?_eq_getElem (by omega)
  rw [hn] at h2
  change y < C[i + 1] at h2
  rcases Nat.eq_or_lt_of_le (show i + 1 ≤ j from hij) with h' | h'
  · subst h'; omega
  · have := List.pairwise_iff_getElem.1 h.1 (i + 1) j (by omega) hj h'; omega
/-- From one cut to the next nothing begins and nothing ends. -/
theorem CutsOf.same {most : Int} (hm : 0 ≤ most) {S : List SpanV} {C : List Int} (h : CutsOf most S C) {L : List SpanV} (hL : ∀ s ∈ L, s ∈ S) {i : Nat} {c x : Int} (hc : C[i]? = some c) (h1 : c ≤ x) (h2 : x < cutEnd most C (i + 1)) :
    hasB L x = hasB L c := by
  have hxm : x ≤ most := by
    unfold cutEnd at h2
    cases hn : C[i + 1]? with
    | none => rw [hn] at h2; change x < most + 1 at h2; omega
    | some y => rw [hn] at h2; change x < y at h2; have := h.le hm (List.mem_of_getElem? hn); omega
  have key : ∀ s ∈ L, s.inB x = s.inB c := by
    intro s hs
    have n1 : s.lo ≤ s.hi → c < s.lo → x < s.lo := by
      intro hv hlo
      rcases Int.lt_or_le x s.lo with h' | h'
      · exact h'
      · exact absurd ((h.2.2 s.lo).2 (.inr ⟨s, hL s hs, hv, .inl rfl, by omega⟩)) (h.none_between hc hlo (by omega))
    have n2 : s.lo ≤ s.hi → c ≤ s.hi → x ≤ s.hi := by
      intro hv hhi
      rcases Int.lt_or_le s.hi x with h' | h'
      · exact absurd ((h.2.2 (s.hi + 1)).2 (.inr ⟨s, hL s hs, hv, .inr rfl, by omega⟩)) (h.none_between hc (by omega) (by omega))
      · exact h'
    rw [Bool.eq_iff_iff, inB_iff, inB_iff]
    rcases Int.lt_or_le s.hi s.lo with hv | hv
    · omega
    · have := n1 hv; have := n2 hv; omega
  have : ∀ M : List SpanV, (∀ s ∈ M, s.inB x = s.inB c) → hasB M x = hasB M c := by
    intro M
    induction M with
    | nil => intro _; rfl
    | cons s M ih =>
      intro hM
      have e1 := hM s (List.mem_cons_self ..)
      have e2 := ih (fun s hs => hM s (List.mem_cons_of_mem _ hs))
      simp only [hasB, List.any_cons] at *
      rw [e1, e2]
  exact this L key
/-- Is a number in what is made? -/
def soB (how : Int) (a b : List SpanV) (x : Int) : Bool :=
  if how = 1 then hasB a x || hasB b x else if how = 2 then hasB a x && hasB b x else if how = 3 then hasB a x && !hasB b x else !hasB a x
theorem CutsOf.so {most : Int} (hm : 0 ≤ most) {a b : List SpanV} {C : List Int} (h : CutsOf most (a ++ b) C) (how : Int) {i : Nat} {c x : Int} (hc : C[i]? = some c) (h1 : c ≤ x) (h2 : x < cutEnd most C (i + 1)) :
    soB how a b x = soB how a b c := by
  unfold soB
  rw [h.same hm (fun s hs => List.mem_append_left _ hs) hc h1 h2, h.same hm (L := b) (fun s hs => List.mem_append_right _ hs) hc h1 h2]
def soP (how most : Int) (a b : List SpanV) (x : Int) : Bool := decide (0 ≤ x) && decide (x ≤ most) && soB how a b x
/-- What has been made up to the i-th cut. -/
def MadeTo (how most : Int) (a b : List SpanV) (C : List Int) (i : Nat) (O : List SpanV) : Prop :=
  NF O ∧ (∀ t ∈ O, t.hi < cutEnd most C i) ∧ ∀ x, hasB O x = (decide (0 ≤ x) && decide (x < cutEnd most C i) && soB how a b x)
theorem MadeTo.zero {how most : Int} {a b : List SpanV} {C : List Int} (h : CutsOf most (a ++ b) C) : MadeTo how most a b C 0 [] := by
  obtain ⟨r, rfl⟩ := h.head
  refine ⟨trivial, fun t ht => by simp at ht, fun x => ?_⟩
  rw [hasB_nil]
  simp [cutEnd]
  omega
theorem MadeTo.skip {how most : Int} (hm : 0 ≤ most) {a b : List SpanV} {C : List Int} (h : CutsOf most (a ++ b) C) {i : Nat} {c : Int} (hc : C[i]? = some c) {O : List SpanV} (hO : MadeTo how most a b C i O) (hs : soB how a b c = false) : MadeTo how most a b C (i + 1) O := by
  obtain ⟨h1, h2, h3⟩ := hO
  have hlt := h.lt_end hm hc
  have e0 : cutEnd most C i = c := by unfold cutEnd; rw [hc]
  rw [e0] at h2 h3
  refine ⟨h1, fun t ht => by have := h2 t ht; omega, fun x => ?_⟩
  rw [h3]
  rcases Int.lt_or_le x c with hx | hx
  · have : x < cutEnd most C (i + 1) := by omega
    simp [hx, this]
  · rcases Int.lt_or_le x (cutEnd most C (i + 1)) with hx2 | hx2
    · rw [h.so hm how hc hx hx2, hs]; simp
    · have e1 : ¬ x < c := by omega
      have e2 : ¬ x < cutEnd most C (i + 1) := by omega
      simp [e1, e2]
theorem made_mem {how most : Int} (hm : 0 ≤ most) {a b : List SpanV} {C : List Int} (h : CutsOf most (a ++ b) C) {i : Nat} {c : Int} (hc : C[i]? = some c) (hs : soB how a b c = true) (hc0 : 0 ≤ c) (x : Int) :
    ((decide (0 ≤ x) && decide (x < c) && soB how a b x) || (decide (c ≤ x) && decide (x ≤ cutEnd most C (i + 1) - 1))) = (decide (0 ≤ x) && decide (x < cutEnd most C (i + 1)) && soB how a b x) := by
  have hlt := h.lt_end hm hc
  rcases Int.lt_or_le x c with hx | hx
  · have h1 : x < cutEnd most C (i + 1) := by omega
    have h2 : ¬ c ≤ x := by omega
    simp [hx, h1, h2]
  · have h2 : ¬ x < c := by omega
    rcases Int.lt_or_le x (cutEnd most C (i + 1)) with hx2 | hx2
    · have h3 : x ≤ cutEnd most C (i + 1) - 1 := by omega
      have h4 : 0 ≤ x := by omega
      rw [h.so hm how hc hx hx2, hs]
      simp [h2, hx, h3, hx2, h4]
    · have h3 : ¬ x ≤ cutEnd most C (i + 1) - 1 := by omega
      have h4 : ¬ x < cutEnd most C (i + 1) := by omega
      simp [h2, h3, h4]
theorem MadeTo.new {how most : Int} (hm : 0 ≤ most) {a b : List SpanV} {C : List Int} (h : CutsOf most (a ++ b) C) {i : Nat} {c : Int} (hc : C[i]? = some c) {O : List SpanV} (hO : MadeTo how most a b C i O) (hs : soB how a b c = true)
    (s : SpanV) (e1 : s.lo = c) (e2 : s.hi = cutEnd most C (i + 1) - 1) (hn : ∀ t ∈ O, t.hi + 1 ≠ c) : MadeTo how most a b C (i + 1) (O ++ [s]) := by
  obtain ⟨h1, h2, h3⟩ := hO
  have hlt := h.lt_end hm hc
  have hc0 := (h.2.1 c (List.mem_of_getElem? hc)).1
  have e0 : cutEnd most C i = c := by unfold cutEnd; rw [hc]
  rw [e0] at h2 h3
  refine ⟨NF.snoc.2 ⟨h1, by omega, fun t ht => by have := h2 t ht; have := hn t ht; omega⟩, fun t ht => ?_, fun x => ?_⟩
  · rcases List.mem_append.1 ht with ht | ht
    · have := h2 t ht; omega
    · obtain rfl := List.mem_singleton.1 ht; omega
  · rw [hasB_append, hasB_one, h3]
    have e : s.inB x = (decide (c ≤ x) && decide (x ≤ cutEnd most C (i + 1) - 1)) := by unfold SpanV.inB; rw [e1, e2]
    rw [e]
    exact made_mem hm h hc hs hc0 x
theorem MadeTo.more {how most : Int} (hm : 0 ≤ most) {a b : List SpanV} {C : List Int} (h : CutsOf most (a ++ b) C) {i : Nat} {c : Int} (hc : C[i]? = some c) {A : List SpanV} {t : SpanV} (hO : MadeTo how most a b C i (A ++ [t])) (hs : soB how a b c = true)
    (s : SpanV) (e1 : s.lo = t.lo) (e2 : s.hi = cutEnd most C (i + 1) - 1) (hn : t.hi + 1 = c) : MadeTo how most a b C (i + 1) (A ++ [s]) := by
  obtain ⟨h1, h2, h3⟩ := hO
  have hlt := h.lt_end hm hc
  have hc0 := (h.2.1 c (List.mem_of_getElem? hc)).1
  have e0 : cutEnd most C i = c := by unfold cutEnd; rw [hc]
  rw [e0] at h2 h3
  obtain ⟨k1, k2, k3⟩ := NF.snoc.1 h1
  refine ⟨NF.snoc.2 ⟨k1, by omega, fun u hu => by have := k3 u hu; omega⟩, fun u hu => ?_, fun x => ?_⟩
  · rcases List.mem_append.1 hu with hu | hu
    · have := h2 u (List.mem_append_left _ hu); omega
    · obtain rfl := List.mem_singleton.1 hu; omega
  · rw [← made_mem hm h hc hs hc0 x, ← h3, hasB_append, hasB_append, hasB_one, hasB_one, Bool.or_assoc]
    congr 1
    unfold SpanV.inB
    rw [e1, e2, Bool.eq_iff_iff]
    simp
    omega
theorem MadeTo.last {how most : Int} {a b : List SpanV} {C : List Int} {O : List SpanV} (hO : MadeTo how most a b C C.length O) : O = theSet (soP how most a b) := by
  obtain ⟨h1, _, h3⟩ := hO
  have e0 : cutEnd most C C.length = most + 1 := by unfold cutEnd; simp
  rw [e0] at h3
  symm
  refine theSet_eq h1 (fun x => ?_)
  rw [h3]
  unfold soP
  congr 2
  rw [Bool.eq_iff_iff]; simp; omega

/-- How many numbers there are. -/
def cnt (F : List SpanV) : Int := (F.map fun s => s.hi - s.lo + 1).sum
theorem cnt_append (A B : List SpanV) : cnt (A ++ B) = cnt A + cnt B := by simp [cnt]
theorem cnt_succ {F : List SpanV} {k : Nat} {s : SpanV} (h : F[k]? = some s) : cnt (F.take (k + 1)) = cnt (F.take k) + (s.hi - s.lo + 1) := by
  rw [List.take_add_one, h, cnt_append]; simp [cnt]
/-- The members below n. -/
def cntP (P : Int → Bool) (n : Nat) : Int := ((List.range n).countP fun x : Nat => P x : Nat)
theorem cntP_succ (P : Int → Bool) (n : Nat) : cntP P (n + 1) = cntP P n + (if P n then 1 else 0) := by
  unfold cntP
  rw [List.range_succ, List.countP_append]
  simp [List.countP_cons]
  split <;> simp
theorem cntP_one (s : SpanV) (hs : s.lo ≤ s.hi) : ∀ n : Nat, cntP s.inB n = if (n : Int) ≤ s.lo then 0 else if (n : Int) ≤ s.hi then n - s.lo else s.hi - s.lo + 1 := by
  intro n
  have := s.hlo
  induction n with
  | zero => simp [cntP]; omega
  | succ n ih =>
    rw [cntP_succ, ih]
    have e : (s.inB n = true) ↔ s.lo ≤ n ∧ (n : Int) ≤ s.hi := inB_iff
    by_cases h : s.inB n = true
    · rw [if_pos h]
      have := e.1 h
      repeat' split
      all_goals omega
    · rw [if_neg h]
      have h' : ¬ (s.lo ≤ n ∧ (n : Int) ≤ s.hi) := fun x => h (e.2 x)
      repeat' split
      all_goals omega
theorem cntP_add {P Q R : Int → Bool} (n : Nat) (h : ∀ x : Nat, x < n → R x = (P x || Q x) ∧ ¬ (P x = true ∧ Q x = true)) : cntP R n = cntP P n + cntP Q n := by
  induction n with
  | zero => simp [cntP]
  | succ n ih =>
    rw [cntP_succ, cntP_succ, cntP_succ, ih (fun x hx => h x (by omega))]
    obtain ⟨h1, h2⟩ := h n (by omega)
    rw [h1]
    cases hp : P n <;> cases hq : Q n <;> simp_all <;> omega
theorem cntP_le (P : Int → Bool) (n : Nat) : 0 ≤ cntP P n ∧ cntP P n ≤ n := by
  unfold cntP
  have := List.countP_le_length (p := fun x : Nat => P x) (l := List.range n)
  simp at this
  omega
theorem cntP_nil (n : Nat) : cntP (hasB []) n = 0 := by
  unfold cntP
  have : (List.range n).countP (fun x : Nat => hasB [] x) = 0 := by
    rw [List.countP_eq_zero]; intro x _; simp [hasB]
  rw [this]; rfl
theorem cnt_members {n : Nat} (hn : (n : Int) = 4294967296) : ∀ {F : List SpanV}, NF F → cnt F = cntP (hasB F) n
  | [], _ => (cntP_nil n).symm
  | s :: r, h => by
    have hs := s.hhi
    have h1 := cntP_one s h.1 n
    rw [if_neg (by have := h.1; omega), if_neg (by omega)] at h1
    have e : cnt (s :: r) = (s.hi - s.lo + 1) + cnt r := by simp [cnt]
    rw [e, cnt_members hn h.2.2, ← h1]
    symm
    refine cntP_add _ (fun x _ => ⟨rfl, ?_⟩)
    rintro ⟨h3, h4⟩
    obtain ⟨u, hu, h5, h6⟩ := hasB_iff.1 h4
    have := inB_iff.1 h3
    have := h.2.1 u hu
    omega
theorem big32 : ∃ n : Nat, (n : Int) = 4294967296 := ⟨4294967296, rfl⟩
theorem cnt_range {F : List SpanV} (h : NF F) : 0 ≤ cnt F ∧ cnt F ≤ 4294967296 := by
  obtain ⟨n, hn⟩ := big32
  rw [cnt_members hn h, ← hn]; exact cntP_le _ _
theorem cnt_take_le {F : List SpanV} (h : NF F) (k : Nat) : 0 ≤ cnt (F.take k) ∧ cnt (F.take k) ≤ 4294967296 := cnt_range (h.take k)

end Go.Proofs.Ythgmmajoinkblaa
