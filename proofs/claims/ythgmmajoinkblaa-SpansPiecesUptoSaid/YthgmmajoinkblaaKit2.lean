/-
  Small general lemmas, the second text: lists of structs as cells, the first place at which a predicate holds.
-/
import Derived.Test.YthgmmajoinkblaaKit
import Derived.Lib.SlBy
namespace Go.Proofs.Ythgmmajoinkblaa
open Go Go.RowKit

theorem flat_get {α : Type} (enc : α → List Value) (k : Nat) (hk : ∀ x, (enc x).length = k) : ∀ (L : List α) (j i : Nat) (x : α) (v : Value), L[j]? = some x → (enc x)[i]? = some v → (L.flatMap enc)[j * k + i]? = some v
  | [], j, i, x, v, h, _ => by simp at h
  | y :: L, 0, i, x, v, h, hv => by
    simp at h; subst h
    have hi : i < (enc y).length := (List.getElem?_eq_some_iff.1 hv).1
    rw [List.flatMap_cons, Nat.zero_mul, Nat.zero_add, List.getElem?_append_left hi]
    exact hv
  | y :: L, j + 1, i, x, v, h, hv => by
    rw [List.flatMap_cons, List.getElem?_append_right (by rw [hk]; rw [Nat.add_mul]; omega), hk]
    have := flat_get enc k hk L j i x v (by simpa using h) hv
    rw [show (j + 1) * k + i - k = j * k + i by rw [Nat.add_mul]; omega]
    exact this
theorem flat_len {α : Type} (enc : α → List Value) (k : Nat) (hk : ∀ x, (enc x).length = k) (L : List α) : (L.flatMap enc).length = L.length * k := by
  induction L with
  | nil => simp
  | cons y L ih => rw [List.flatMap_cons, List.length_append, ih, hk, List.length_cons, Nat.add_mul]; omega
theorem get_bang {α : Type} [Inhabited α] {L : List α} {j : Nat} (h : j < L.length) : L[j]? = some L[j]! := by
  rw [List.getElem!_eq_getElem?_getD, List.getElem?_eq_getElem h]; rfl
/-- The cells of a slice of structs, as the shelf's contracts ask them. -/
theorem Rd.cells {α : Type} [Inhabited α] {enc : α → List Value} {k : Nat} (hk : ∀ x, (enc x).length = k) {w : World} {L : List α} {b off : Nat}
    (hcell : ∀ j u, (L.flatMap enc)[j]? = some u → w.cell? ⟨b, off + j, none⟩ = some u) :
    ∀ j, j < L.length → ∀ i v, (enc L[j]!)[i]? = some v → w.cell? ⟨b, off + j * k + i, none⟩ = some v := by
  intro j hj i v hv
  have := hcell _ _ (flat_get enc k hk L j i _ v (get_bang hj) hv)
  rw [Nat.add_assoc]; exact this

theorem rt2 {v v' u u' : Value} (h : v = v' ∧ u = u') : Ending.returned (.tuple #[v, u]) = .returned (.tuple #[v', u']) := by rw [h.1, h.2]
theorem vi {k : IntKind} {a b : Int} (h : a = b) : Value.int k a = .int k b := by rw [h]
theorem vb {a b : Bool} (h : a = b) : Value.bool a = .bool b := by rw [h]
/-- The first place at which p holds; -1: there is none. -/
def idxP {α : Type} [Inhabited α] (p : α → Bool) (L : List α) : Int := Lib.idxBy (fun _ y => p y) L default
theorem idxP_nil {α : Type} [Inhabited α] (p : α → Bool) : idxP p [] = -1 := rfl
theorem idxP_miss {α : Type} [Inhabited α] (p : α → Bool) (L : List α) (h : ∀ (j : Nat) (x : α), L[j]? = some x → p x = false) : idxP p L = -1 := by
  have := Lib.idxBy_miss (fun _ y => p y) L L.length default (fun j hj => h j _ (get_bang hj))
  rw [List.take_length] at this
  exact this
theorem idxP_hit {α : Type} [Inhabited α] (p : α → Bool) (L : List α) (k : Nat) (x : α) (hx : L[k]? = some x) (h : p x = true) (hne : ∀ (j : Nat) (y : α), j < k → L[j]? = some y → p y = false) : idxP p L = k := by
  have hk : k < L.length := (List.getElem?_eq_some_iff.1 hx).1
  have e : L[k]! = x := by
    have := get_bang hk
    rw [hx] at this
    injection this with this
    exact this.symm
  have := Lib.idxBy_hit (fun _ y => p y) L L.length k default hk (Nat.le_refl _) (by rw [e]; exact h) (fun j hj => hne j _ hj (get_bang (by omega)))
  rw [List.take_length] at this
  exact this
theorem idxP_cases {α : Type} [Inhabited α] (p : α → Bool) (L : List α) : (idxP p L = -1 ∧ ∀ (j : Nat) (x : α), L[j]? = some x → p x = false) ∨ ∃ (k : Nat) (x : α), idxP p L = k ∧ L[k]? = some x ∧ p x = true ∧ ∀ (j : Nat) (y : α), j < k → L[j]? = some y → p y = false := by
  by_cases h : ∃ (k : Nat) (x : α), L[k]? = some x ∧ p x = true
  · obtain ⟨k, hk⟩ := h
    have : ∃ (k : Nat) (x : α), L[k]? = some x ∧ p x = true ∧ ∀ (j : Nat) (y : α), j < k → L[j]? = some y → p y = false := by
      induction k using Nat.strongRecOn with
      | ind k ih =>
        by_cases h2 : ∃ j : Nat, j < k ∧ ∃ y, L[j]? = some y ∧ p y = true
        · obtain ⟨j, hj, hy⟩ := h2
          exact ih j hj hy
        · obtain ⟨x, hx, hp⟩ := hk
          refine ⟨k, x, hx, hp, fun j y hj hy => ?_⟩
          cases hpy : p y with
          | false => rfl
          | true => exact absurd ⟨j, hj, y, hy, hpy⟩ h2
    obtain ⟨k, x, hx, hp, hne⟩ := this
    exact .inr ⟨k, x, idxP_hit p L k x hx hp hne, hx, hp, hne⟩
  · refine .inl ⟨?_, ?_⟩
    · exact idxP_miss p L (fun j x hx => by
        cases hp : p x with
        | false => rfl
        | true => exact absurd ⟨j, x, hx, hp⟩ h)
    · intro j x hx
      cases hp : p x with
      | false => rfl
      | true => exact absurd ⟨j, x, hx, hp⟩ h

end Go.Proofs.Ythgmmajoinkblaa
