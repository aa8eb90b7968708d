/-
  Slices of slices of spans, with how long each is at most.
-/
import Derived.Test.YthgmmajoinkblaaElem4
namespace Go.Proofs.Ythgmmajoinkblaa
open Go Go.RowKit Go.ChangeShapes Go.WideShapes Go.Deep

theorem elem_setB {H : Type} {enc : TypeId × Value → H} {w : World} {base : Nat} {spare : Nat → Bool} {held : Bool} (n : Nat) (cs : List Value) (x : DataW H × List MemPlace) (h : DataW.trod enc Try.prog w base spare held n 36 cs = some x) (hr : InReach Try.prog 36 x.1) :
    ∃ s : SetV, cs = s.cell ∧ (Rd w w.heap.size 2 s.v s.L.length (scells s.L) ∧ s.L.length ≤ 17592186044416) := by
  obtain ⟨v, L, hv, hrd, _, _, hb⟩ := open_rd2 (Q := fun _ => True) span_len (by decide) Try.underlying36 (by kernel_rfl) (fun n cs y h _ => (elem_spanS n cs y h).elim fun r hr => ⟨r, hr, trivial⟩) h hr
  subst hv
  rw [show Try.prog.bytesOf 44 = 8 from by kernel_rfl] at hb
  have : L.length * 8 ≤ 140737488355328 := Nat.le_trans hb (by decide)
  exact ⟨⟨v, L⟩, rfl, hrd, by show L.length ≤ _; omega⟩

end Go.Proofs.Ythgmmajoinkblaa
