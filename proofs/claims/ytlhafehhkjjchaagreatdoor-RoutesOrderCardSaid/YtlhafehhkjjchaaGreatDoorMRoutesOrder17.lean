/-
  Joined texts: At4.
-/
import Derived.Test.YtlhafehhkjjchaaGreatDoorMRoutesOrder15
import Derived.Test.YtlhafehhkjjchaaGreatDoorMRoutesOrder3
/-
  Walks over the document's addresses: Parse.
-/
namespace Go.Proofs.YtlhafehhkjjchaaGreatDoor
open Go Go.RowKit Go.Sort

theorem Tryz.infoStr : (Tryz.prog.info? 9).map (fun i => (i.zero, i.size, i.bytes)) = some (some (.string ByteArray.empty), 1, 16) := by kernel_rfl
def PInv (l : List UInt8) (k f : Nat) (L : List ByteArray) : Prop :=
  (k ≤ l.length ∧ f ≤ k ∧ pieces 46 l = L.map (·.data.toList) ++ pieces 46 (l.drop f) ∧ (46 : UInt8) ∉ (l.drop f).take (k - f)) ∨ (k = l.length + 1 ∧ pieces 46 l = L.map (·.data.toList))
theorem one_str (x : ByteArray) : ∀ u ∈ [Value.string x], u.oneCell' = true := by intro u hu; simp at hu; subst hu; rfl
theorem pinv_start (l : List UInt8) : PInv l 0 0 [] := Or.inl ⟨Nat.zero_le _, Nat.le_refl _, by simp, by simp⟩
theorem pinv_skip {l : List UInt8} {k f : Nat} {L : List ByteArray} {x : UInt8} (h : PInv l k f L) (hk : l[k]? = some x) (hx : x ≠ 46) : PInv l (k + 1) f L := by
  have hkl := (List.getElem?_eq_some_iff.1 hk).1
  rcases h with ⟨h1, h2, h3, h4⟩ | ⟨h1, _⟩
  · refine Or.inl ⟨by omega, by omega, h3, ?_⟩
    rw [show k + 1 - f = (k - f) + 1 by omega, List.take_add_one]
    have e : (l.drop f)[k - f]? = some x := by rw [List.getElem?_drop, show f + (k - f) = k by omega, hk]
    rw [e]
    intro h
    rcases List.mem_append.1 h with h | h
    · exact h4 h
    · simp at h; exact hx h.symm
  · omega
theorem drop_split {l : List UInt8} {k f : Nat} (hf : f ≤ k) (hk : l[k]? = some 46) : l.drop f = (l.drop f).take (k - f) ++ 46 :: l.drop (k + 1) := by
  have hkl := (List.getElem?_eq_some_iff.1 hk).1
  have e : (l.drop f).drop (k - f) = 46 :: l.drop (k + 1) := by
    rw [List.drop_drop, show f + (k - f) = k by omega, List.drop_eq_getElem_cons hkl]
    congr 1
    exact Option.some.inj ((List.getElem?_eq_getElem hkl).symm.trans hk)
  rw [← e, List.take_append_drop]
theorem pinv_cut {l : List UInt8} {k f : Nat} {L : List ByteArray} {b : ByteArray} (h : PInv l k f L) (hk : l[k]? = some 46) (hb : b.data.toList = (l.drop f).take (k - f)) : PInv l (k + 1) (k + 1) (L ++ [b]) := by
  have hkl := (List.getElem?_eq_some_iff.1 hk).1
  rcases h with ⟨h1, h2, h3, h4⟩ | ⟨h1, _⟩
  · refine Or.inl ⟨by omega, Nat.le_refl _, ?_, by simp⟩
    rw [h3, drop_split h2 hk, pieces_cons _ h4, List.map_append, List.append_assoc]
    simp [hb]
  · omega
theorem pinv_end {l : List UInt8} {f : Nat} {L : List ByteArray} {b : ByteArray} (h : PInv l l.length f L) (hb : b.data.toList = (l.drop f).take (l.length - f)) : PInv l (l.length + 1) (l.length + 1) (L ++ [b]) := by
  rcases h with ⟨h1, h2, h3, h4⟩ | ⟨h1, _⟩
  · refine Or.inr ⟨rfl, ?_⟩
    have e : (l.drop f).take (l.length - f) = l.drop f := List.take_of_length_le (by simp)
    rw [e] at h4 hb
    rw [h3, pieces_none h4, List.map_append]
    simp [hb]
  · omega
theorem pinv_done {l : List UInt8} {f : Nat} {L : List ByteArray} (h : PInv l (l.length + 1) f L) : pieces 46 l = L.map (·.data.toList) := by
  rcases h with ⟨h1, _⟩ | ⟨_, h⟩
  · omega
  · exact h

end Go.Proofs.YtlhafehhkjjchaaGreatDoor
