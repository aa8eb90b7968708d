/-
  The walk of the reference's Same.
-/
import Derived.Test.YtdlhpiknifcehaaDoorCut
namespace Go.Proofs.YtdlhpiknifcehaaDoor
open Go Go.RowKit

theorem pcells_fst {L : List (Int × Int)} {k : Nat} {p : Int × Int} (h : L[k]? = some p) : (pcells L)[k * 2 + 0]? = some (.int .u32 p.1) := by
  induction L generalizing k with
  | nil => simp at h
  | cons q L ih =>
    cases k with
    | zero => simp at h; subst h; rfl
    | succ k =>
      have := ih (k := k) (by simpa using h)
      simpa [pcells, Nat.add_mul] using this
theorem pcells_snd {L : List (Int × Int)} {k : Nat} {p : Int × Int} (h : L[k]? = some p) : (pcells L)[k * 2 + 1]? = some (.int .i64 p.2) := by
  induction L generalizing k with
  | nil => simp at h
  | cons q L ih =>
    cases k with
    | zero => simp at h; subst h; rfl
    | succ k =>
      have := ih (k := k) (by simpa using h)
      simpa [pcells, Nat.add_mul] using this

theorem ne_at {L M : List (Int × Int)} {k : Nat} {p q : Int × Int} (hp : L[k]? = some p) (hq : M[k]? = some q) (h : ¬ (p.1 = q.1 ∧ p.2 = q.2)) : false = decide (L = M) := by
  symm
  rw [decide_eq_false_iff_not]
  rintro rfl
  rw [hp] at hq
  injection hq with hq
  subst hq
  exact h ⟨rfl, rfl⟩
theorem take_at {L M : List (Int × Int)} {k : Nat} {p q : Int × Int} (hp : L[k]? = some p) (hq : M[k]? = some q) (h1 : p.1 = q.1) (h2 : p.2 = q.2) (h : L.take k = M.take k) : L.take (k + 1) = M.take (k + 1) := by
  have e : p = q := Prod.ext h1 h2
  subst e
  rw [List.take_add_one, List.take_add_one, hp, hq, h]

end Go.Proofs.YtdlhpiknifcehaaDoor
