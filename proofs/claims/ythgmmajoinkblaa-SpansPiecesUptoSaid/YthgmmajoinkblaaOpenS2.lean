/-
  Arguments opened to cells with their weights: no program in sight.
-/
import Derived.Test.YthgmmajoinkblaaOpenS
import Derived.SizedLaws
namespace Go.Proofs.Ythgmmajoinkblaa
open Go Go.RowKit Go.ChangeShapes Go.WideShapes Go.Deep

section
variable {H : Type} {enc : TypeId × Value → H} {P : Program} {w : World} {base : Nat} {spare : Nat → Bool} {held : Bool}
/-- All of a datum's weights are within the reach. -/
def InReach (P : Program) (t : TypeId) (d : DataW H) : Prop := ∀ m ∈ d.weights P t, m ≤ reachBytes
theorem mem_weightsAll {e : TypeId} {d : DataW H} : ∀ {ds : List (DataW H)}, d ∈ ds → ∀ n ∈ d.weights P e, n ∈ DataW.weightsAll P e ds
  | [], h, _, _ => by simp at h
  | x :: ds, h, n, hn => by
    rw [DataW.weightsAll, List.mem_append]
    rcases List.mem_cons.1 h with rfl | h
    · exact .inl hn
    · exact .inr (mem_weightsAll h n hn)
theorem sub_at2 {t : TypeId} {fs : Array Field} {n : Nat} {cs : List Value} {x : DataW H × List MemPlace} (ht : P.underlying t = some (.struct fs)) (h : DataW.trod enc P w base spare held n t cs = some x) (hw : InReach P t x.1) :
    cs.length = P.cellsOf t ∧ ∃ m, ∀ (j : Nat) (f : Field) (off : Nat) (ty : TypeId) (k : Nat), fs[j]? = some f → f.offset = off → f.type = ty → P.cellsOf ty = k → ∃ y, DataW.trod enc P w base spare held m ty ((cs.drop off).take k) = some y ∧ InReach P ty y.1 := by
  obtain ⟨xs, m, _, hx, hl, hlen, hf⟩ := DataW.trod_struct ht h
  refine ⟨hl, m, fun j f off ty k hj ho hty hk => ?_⟩
  have h1 := hf j f hj
  have hjl : j < xs.length := by rw [hlen]; exact (Array.getElem?_eq_some_iff.1 hj).1
  subst ho hty hk
  refine ⟨_, h1.trans (List.getElem?_eq_getElem hjl), fun q hq => hw q ?_⟩
  rw [hx]
  simp only [DataW.weights, ht]
  exact DataW.weights_mem_each (j := j) (t := f.type) (by simpa using congrArg (Option.map (·.type)) hj) (by simp [hjl]) q hq
theorem open_rd2 {α : Type} {encV : α → List Value} {Q : α → Prop} {k : Nat} (hk : ∀ x, (encV x).length = k) (hk0 : 0 < k) {t e : TypeId} {n : Nat} {cs : List Value} {x : DataW H × List MemPlace} (ht : P.underlying t = some (.slice e)) (hC : P.cellsOf e = k)
    (hel : ∀ n cs y, DataW.trod enc P w base spare held n e cs = some y → InReach P e y.1 → ∃ r, cs = encV r ∧ Q r) (h : DataW.trod enc P w base spare held n t cs = some x) (hw : InReach P t x.1) :
    ∃ (v : Value) (L : List α), cs = [v] ∧ Rd w w.heap.size k v L.length (L.flatMap encV) ∧ L.length ≤ maxLen ∧ (∀ r ∈ L, Q r) ∧ L.length * P.bytesOf e ≤ reachBytes := by
  rcases open_slice ht h with ⟨h0, _⟩ | ⟨a, len, cap, m, n', D, Pl, hcs, _, hl, hm, hmm, hx, hi⟩
  · exact ⟨_, [], h0, ⟨none, 0, rfl, by simp, by simp, fun h => absurd h (by simp)⟩, by simp, by simp, by simp⟩
  · have hlm : len ≤ m := by rw [hmm]; split <;> omega
    have hw1 : ∀ i, i < len → InReach P e (D i) := fun i hi' q hq => by
      refine hw q ?_
      rw [hx]
      simp only [DataW.weights, ht]
      refine List.mem_cons_of_mem _ (List.mem_append_left _ (mem_weightsAll (d := D i) ?_ q hq))
      exact List.mem_map.2 ⟨i, List.mem_range.2 hi', rfl⟩
    have hw2 : len * P.bytesOf e ≤ reachBytes := by
      have := hw ((((List.range len).map D).length + ((List.range (m - len)).map fun j => D (len + j)).length) * P.bytesOf e) (by rw [hx]; simp only [DataW.weights, ht]; exact List.mem_cons_self ..)
      refine Nat.le_trans (Nat.mul_le_mul_right _ ?_) this
      simp
    obtain ⟨L, hL, hq⟩ := list_told (Q := fun i r => w.cells? base (a.add (i * k)) k = some (encV r) ∧ Q r) len (fun i hi' => by
      obtain ⟨cs', hc, ht'⟩ := hi i (by omega)
      obtain ⟨r, hr, hQ⟩ := hel _ _ _ ht' (hw1 i hi')
      rw [hC] at hc
      exact ⟨r, by rw [hc, hr], hQ⟩)
    refine ⟨_, L, hcs, ⟨some a, cap, by rw [hL], by omega, flat_len encV k hk L, fun hpos => ?_⟩, by omega, fun r hr => ?_, by rw [hL]; exact hw2⟩
    · obtain ⟨b, off, sp⟩ := a
      have hz : ∃ u, w.cell? ⟨b, off, sp⟩ = some u := by
        obtain ⟨r, hr⟩ : ∃ r, L[0]? = some r := ⟨_, List.getElem?_eq_getElem hpos⟩
        obtain ⟨_, _, hat⟩ := World.cells?_some (hq 0 r hr).1
        have h1 := hat 0 hk0
        have h2 : (encV r)[0]? = some ((encV r)[0]'(by rw [hk]; exact hk0)) := List.getElem?_eq_getElem _
        rw [h2] at h1
        refine ⟨_, Eq.trans ?_ h1⟩
        simp [Addr.add]
      obtain ⟨u0, hu0⟩ := hz
      obtain rfl := Go.Proofs.cell_spot hu0
      refine ⟨b, off, rfl, ?_, fun j u hu => ?_⟩
      · rcases Nat.lt_or_ge b w.heap.size with h | h
        · exact h
        · have hn : w.heap[b]? = none := by simp [h]
          simp [World.cell?, hn] at hu0
      · obtain ⟨i, jj, r, hj, hjj, hr, hu'⟩ := flat_inv encV k hk L j u hu
        obtain ⟨_, _, hat⟩ := World.cells?_some (hq i r hr).1
        have h1 := hat jj hjj
        rw [hu'] at h1
        have e : (Addr.add ⟨b, off, none⟩ (i * k)).add jj = ⟨b, off + j, none⟩ := by
          rw [hj]; simp only [Addr.add]
          split <;> split <;> simp_all <;> omega
        rw [← e]; exact h1
    · obtain ⟨i, hi', he⟩ := List.getElem_of_mem hr
      exact (hq i r (by rw [← he]; exact List.getElem?_eq_getElem hi')).2
end

end Go.Proofs.Ythgmmajoinkblaa
