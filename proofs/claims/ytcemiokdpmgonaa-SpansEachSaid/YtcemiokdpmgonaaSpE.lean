/-
  The numbers of a set, one after the other, and where a reader of them stands: plain laws; no walk.
-/
import Derived.Test.YtcemiokdpmgonaaSpMath
namespace Go.Proofs.Ytcemiokdpmgonaa
open Go

/-- A number below 2^32. -/
abbrev N32 := { x : Int // 0 ≤ x ∧ x < 4294967296 }
def mkN (x : Int) : N32 := if h : 0 ≤ x ∧ x < 4294967296 then ⟨x, h⟩ else ⟨0, by omega⟩
theorem mkN_val {x : Int} (h0 : 0 ≤ x) (h1 : x < 4294967296) : (mkN x).1 = x := by unfold mkN; rw [dif_pos ⟨h0, h1⟩]
/-- The first j numbers of a span. -/
def numsTo (s : SpanV) (j : Nat) : List N32 := (List.range j).map fun i : Nat => mkN (s.lo + (i : Int))
theorem numsTo_zero (s : SpanV) : numsTo s 0 = [] := rfl
theorem numsTo_succ (s : SpanV) (j : Nat) : numsTo s (j + 1) = numsTo s j ++ [mkN (s.lo + j)] := by simp [numsTo, List.range_succ]
theorem numsTo_length (s : SpanV) (j : Nat) : (numsTo s j).length = j := by simp [numsTo]
theorem numsTo_get (s : SpanV) {i j : Nat} (h : i < j) : (numsTo s j)[i]? = some (mkN (s.lo + i)) := by simp [numsTo, h]
theorem numsTo_prefix (s : SpanV) : ∀ {i j : Nat}, i ≤ j → numsTo s i <+: numsTo s j
  | i, 0, h => by
    obtain rfl : i = 0 := by omega
    exact List.prefix_rfl
  | i, j + 1, h => by
    by_cases e : i = j + 1
    · rw [e]; exact List.prefix_rfl
    · rw [numsTo_succ]; exact (numsTo_prefix s (by omega : i ≤ j)).trans (List.prefix_append _ _)
def SpanV.cnt (s : SpanV) : Nat := (s.hi + 1 - s.lo).toNat
def SpanV.nums (s : SpanV) : List N32 := numsTo s s.cnt
/-- All the numbers of a list of spans. -/
def allN (F : List SpanV) : List N32 := F.flatMap SpanV.nums
theorem allN_take {F : List SpanV} {k : Nat} {s : SpanV} (h : F[k]? = some s) : allN (F.take (k + 1)) = allN (F.take k) ++ s.nums := by
  unfold allN
  rw [List.take_add_one, h]
  simp
theorem allN_split {F : List SpanV} {k : Nat} {s : SpanV} (h : F[k]? = some s) : allN F = allN (F.take k) ++ (s.nums ++ allN (F.drop (k + 1))) := by
  obtain ⟨hk, e⟩ := List.getElem?_eq_some_iff.1 h
  have : F = F.take k ++ s :: F.drop (k + 1) := by
    rw [← e, ← List.drop_eq_getElem_cons hk, List.take_append_drop]
  conv => lhs; rw [this]
  unfold allN
  simp
theorem allN_pre {F : List SpanV} {k j : Nat} {s : SpanV} (h : F[k]? = some s) (hj : j ≤ s.cnt) : allN (F.take k) ++ numsTo s j <+: allN F := by
  rw [allN_split h]
  refine (List.prefix_append_right_inj _).2 ?_
  exact (numsTo_prefix s hj).trans (List.prefix_append _ _)
/-- Where a reader stands: at number at_ of span i, k numbers having come; or at the end. -/
def Pos (F : List SpanV) (i : Nat) (at_ : Int) (k : Nat) : Prop :=
  (∃ s, F[i]? = some s ∧ s.lo ≤ at_ ∧ at_ ≤ s.hi ∧ k = (allN (F.take i)).length + (at_ - s.lo).toNat) ∨ (i = F.length ∧ k = (allN F).length)
theorem pos_nil : Pos [] 0 0 0 := Or.inr ⟨rfl, rfl⟩
theorem pos_first {F : List SpanV} {s : SpanV} (h : F[0]? = some s) (hs : s.lo ≤ s.hi) : Pos F 0 s.lo 0 := Or.inl ⟨s, h, Int.le_refl _, hs, by simp [allN]⟩
theorem pos_get {F : List SpanV} {i k : Nat} {at_ : Int} {s : SpanV} (h : Pos F i at_ k) (hi : F[i]? = some s) : s.lo ≤ at_ ∧ at_ ≤ s.hi ∧ (allN F)[k]? = some (mkN at_) := by
  rcases h with ⟨s', h1, h2, h3, h4⟩ | ⟨h1, _⟩
  · rw [hi] at h1
    injection h1 with h1
    subst h1
    refine ⟨h2, h3, ?_⟩
    rw [allN_split hi, h4, List.getElem?_append_right (by omega), show (allN (F.take i)).length + (at_ - s.lo).toNat - (allN (F.take i)).length = (at_ - s.lo).toNat by omega]
    have hlt : (at_ - s.lo).toNat < s.cnt := by unfold SpanV.cnt; omega
    rw [List.getElem?_append_left (by unfold SpanV.nums; rw [numsTo_length]; exact hlt)]
    unfold SpanV.nums
    rw [numsTo_get s hlt, show s.lo + ((at_ - s.lo).toNat : Int) = at_ by omega]
  · rw [h1] at hi; simp at hi
theorem pos_end {F : List SpanV} {i k : Nat} {at_ : Int} (h : Pos F i at_ k) (hi : F.length ≤ i) : i = F.length ∧ (allN F)[k]? = none := by
  rcases h with ⟨s', h1, _⟩ | ⟨h1, h2⟩
  · rw [List.getElem?_eq_none hi] at h1; cases h1
  · exact ⟨h1, by rw [h2]; simp⟩
theorem pos_step {F : List SpanV} {i k : Nat} {at_ : Int} {s : SpanV} (h : Pos F i at_ k) (hi : F[i]? = some s) (hn : at_ + 1 ≤ s.hi) : Pos F i (at_ + 1) (k + 1) := by
  rcases h with ⟨s', h1, h2, h3, h4⟩ | ⟨h1, _⟩
  · rw [hi] at h1
    injection h1 with h1
    subst h1
    exact Or.inl ⟨s, hi, by omega, hn, by omega⟩
  · rw [h1] at hi; simp at hi
theorem pos_next {F : List SpanV} {i k : Nat} {at_ b : Int} {s : SpanV} (hF : ∀ s ∈ F, s.lo ≤ s.hi) (h : Pos F i at_ k) (hi : F[i]? = some s) (hn : ¬ at_ + 1 ≤ s.hi) (hb : ∀ t, F[i + 1]? = some t → b = t.lo) : Pos F (i + 1) b (k + 1) := by
  rcases h with ⟨s', h1, h2, h3, h4⟩ | ⟨h1, _⟩
  · rw [hi] at h1
    injection h1 with h1
    subst h1
    have hl : (allN (F.take (i + 1))).length = k + 1 := by
      rw [allN_take hi, List.length_append, h4]
      unfold SpanV.nums
      rw [numsTo_length]
      unfold SpanV.cnt
      omega
    cases ht : F[i + 1]? with
    | some t =>
      refine Or.inl ⟨t, ht, by rw [hb t ht]; exact Int.le_refl _, by rw [hb t ht]; exact hF t (List.mem_of_getElem? ht), ?_⟩
      rw [hb t ht, hl]; omega
    | none =>
      have hil := (List.getElem?_eq_some_iff.1 hi).1
      have := List.getElem?_eq_none_iff.1 ht
      refine Or.inr ⟨by omega, ?_⟩
      rw [← hl, List.take_of_length_le this]
  · rw [h1] at hi; simp at hi
theorem pos_done {F : List SpanV} {i : Nat} {at_ : Int} (h : Pos F i at_ (allN F).length) : i = F.length := by
  rcases h with ⟨s, h1, h2⟩ | ⟨h1, _⟩
  · have := (pos_get (Or.inl ⟨s, h1, h2⟩) h1).2.2
    simp at this
  · exact h1
theorem pos_le {F : List SpanV} {i k : Nat} {at_ : Int} (h : Pos F i at_ k) : i ≤ F.length := by
  rcases h with ⟨s, h1, _⟩ | ⟨h1, _⟩
  · exact Nat.le_of_lt (List.getElem?_eq_some_iff.1 h1).1
  · omega
theorem prefix_last {α : Type} {A ini : List α} {x : α} (h : ini ++ [x] <+: A) : A[ini.length]? = some x := by
  obtain ⟨t, rfl⟩ := h
  simp
end Go.Proofs.Ytcemiokdpmgonaa
