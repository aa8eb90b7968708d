/-
  The cells of rewrites and of lists of filters (written by wip/gen/genelem2.py).
-/
import Derived.Test.YtpljnogmfeenkaaOpenS2
import Derived.Test.YtpljnogmfeenkaaElem1
import Derived.Test.YtpljnogmfeenkaaRwLaw
namespace Go.Proofs.Ytpljnogmfeenkaa
open Go Go.RowKit Go.ChangeShapes Go.WideShapes Go.Deep

set_option maxHeartbeats 1000000 in
theorem elem_rew {H : Type} {enc : TypeId × Value → H} {w : World} {base : Nat} {spare : Nat → Bool} {held : Bool} (n : Nat) (cs : List Value) (x : DataW H × List MemPlace) (h : DataW.trod enc Try.prog w base spare held n 77 cs = some x) : ∃ r : RewV, cs = r.enc := by
  obtain ⟨l0, m0, s0⟩ := sub_at Try.underlying77 h
  rw [show Try.prog.cellsOf 77 = 3 from by kernel_rfl] at l0
  obtain ⟨c0, c1, c2, rfl⟩ : ∃ c0 c1 c2, cs = [c0, c1, c2] := by
    match cs, l0 with
    | [c0, c1, c2], _ => exact ⟨c0, c1, c2, rfl⟩
  obtain ⟨_, g1⟩ := s0 0 _ 0 4 1 rfl rfl rfl (by kernel_rfl)
  replace g1 : DataW.trod enc Try.prog w base spare held m0 4 [c0] = some _ := g1
  obtain ⟨v0, e0, _⟩ := DataW.trod_bool Try.underlying4 g1
  obtain rfl := (List.cons.inj e0).1
  obtain ⟨_, g2⟩ := s0 1 _ 1 9 1 rfl rfl rfl (by kernel_rfl)
  replace g2 : DataW.trod enc Try.prog w base spare held m0 9 [c1] = some _ := g2
  obtain ⟨v1, e1, _⟩ := DataW.trod_string Try.underlying9 g2
  obtain rfl := (List.cons.inj e1).1
  obtain ⟨_, g3⟩ := s0 2 _ 2 23 1 rfl rfl rfl (by kernel_rfl)
  replace g3 : DataW.trod enc Try.prog w base spare held m0 23 [c2] = some _ := g3
  obtain ⟨v2, e2, _, w2⟩ := DataW.trod_int Try.underlying23 g3
  have b2 := bounds_u32 w2
  obtain rfl := (List.cons.inj e2).1
  exact ⟨⟨v0, v1, v2, ⟨by omega, by omega⟩⟩, rfl⟩
theorem elem_filt {H : Type} {enc : TypeId × Value → H} {w : World} {base : Nat} {spare : Nat → Bool} {held : Bool} (n : Nat) (cs : List Value) (x : DataW H × List MemPlace) (h : DataW.trod enc Try.prog w base spare held n 34 cs = some x) (hw : InReach Try.prog 34 x.1) :
    ∃ f : FiltV, cs = f.enc ∧ (Rd w w.heap.size 10 f.v f.L.length (rcells f.L) ∧ f.L.length * 64 ≤ 140737488355328) := by
  obtain ⟨l0, m0, s0⟩ := sub_at2 Try.underlying34 h hw
  rw [show Try.prog.cellsOf 34 = 2 from by kernel_rfl] at l0
  obtain ⟨c0, c1, rfl⟩ : ∃ c0 c1, cs = [c0, c1] := by
    match cs, l0 with
    | [c0, c1], _ => exact ⟨c0, c1, rfl⟩
  obtain ⟨_, g1, _⟩ := s0 0 _ 0 9 1 rfl rfl rfl (by kernel_rfl)
  replace g1 : DataW.trod enc Try.prog w base spare held m0 9 [c0] = some _ := g1
  obtain ⟨nm, e0, _⟩ := DataW.trod_string Try.underlying9 g1
  obtain rfl := (List.cons.inj e0).1
  obtain ⟨_, g2, hw2⟩ := s0 1 _ 1 32 1 rfl rfl rfl (by kernel_rfl)
  replace g2 : DataW.trod enc Try.prog w base spare held m0 32 [c1] = some _ := g2
  obtain ⟨v, L, hv, hr, hl, _, hb⟩ := open_rd2 (Q := fun _ => True) rule_len (by decide) Try.underlying32 (by kernel_rfl) (fun n cs y h _ => by
    obtain ⟨r, hr⟩ := elem_rule n cs y h
    exact ⟨r, hr, trivial⟩) g2 hw2
  obtain rfl := (List.cons.inj hv).1
  rw [show Try.prog.bytesOf 39 = 64 from by kernel_rfl] at hb
  exact ⟨⟨nm, c1, L⟩, rfl, hr, Nat.le_trans hb (by decide)⟩

end Go.Proofs.Ytpljnogmfeenkaa
