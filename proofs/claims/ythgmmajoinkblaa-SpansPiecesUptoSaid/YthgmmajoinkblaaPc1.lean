/-
  spans.Pieces: the closure that notes a cut.
-/
import Derived.Test.YthgmmajoinkblaaPq8
import Derived.Test.YthgmmajoinkblaaSp9
import Derived.Test.YthgmmajoinkblaaSpMath5
namespace Go.Proofs.Ythgmmajoinkblaa
open Go Go.RowKit Go.Lib Go.Sort

theorem heap_set1 {w : World} {g : Nat} {o u : Value} {t : TypeId} (h : w.heap[g]? = some (.cells #[o] t (0, 0))) : (w.setCell ⟨g, 0, none⟩ u).heap[g]? = some (.cells #[u] t (0, 0)) := by
  simp only [World.setCell, Array.getElem?_modify, if_true]
  rw [h]
  rfl
theorem owns_setOff {w : World} {base g n : Nat} {e : TypeId} {k : Nat} {v u : Value} {xs : List Value} (h : w.ownsRow base e k v n xs) (hg : g < base) : (w.setCell ⟨g, 0, none⟩ u).ownsRow base e k v n xs := by
  obtain ⟨hl, h2⟩ := h
  rcases h2 with h2 | ⟨g', cap, cur, rfl, hb, hh, r⟩
  · exact ⟨hl, .inl h2⟩
  · exact ⟨hl, .inr ⟨g', cap, cur, rfl, hb, set_far hh (by show g' ≠ g; omega), r⟩⟩
/-- What the walk of Pieces keeps while cuts are noted: the box of the greatest number, the cell of the list, the list. -/
structure PSt (w : World) (mb sb : Nat) (most : Int) (L : List Int) (o : Value) (W : World) : Prop where
  cell : W.heap[sb]? = some (.cells #[o] 27 (0, 0))
  row : W.ownsRow (sb + 1) 23 1 o L.length (ucells L)
  box : W.heap[mb]? = some (.cells #[.int .u32 most] 23 (0, 0))
  below : Below w.heap.size w W
theorem PSt.up {w W W' : World} {mb sb : Nat} {most : Int} {L : List Int} {o : Value} (h : PSt w mb sb most L o W) (hb : Below W.heap.size W W') : PSt w mb sb most L o W' := by
  obtain ⟨h1, h2, h3, h4⟩ := h
  exact ⟨(hb.block _ (lt_of_block h1)).trans h1, owns_kept_none h2 (only_of_below hb none), (hb.block _ (lt_of_block h3)).trans h3, h4.trans (hb.mono h4.size)⟩
/-- A block that is neither the list's cell nor the list's own stays, and stays foreign. -/
structure Far (sb : Nat) (o o' : Value) (W W' : World) : Prop where
  size : W.heap.size ≤ W'.heap.size
  kept : ∀ g, g < W.heap.size → g ≠ sb → o.ownBlock ≠ some g → W'.heap[g]? = W.heap[g]? ∧ o'.ownBlock ≠ some g
theorem Far.refl (sb : Nat) (o : Value) (W : World) : Far sb o o W W := ⟨Nat.le_refl _, fun _ _ _ h => ⟨rfl, h⟩⟩
theorem Far.trans {sb : Nat} {o o1 o2 : Value} {W W1 W2 : World} (h : Far sb o o1 W W1) (h2 : Far sb o1 o2 W1 W2) : Far sb o o2 W W2 :=
  ⟨Nat.le_trans h.size h2.size, fun g hg hs ho => by
    obtain ⟨a, b⟩ := h.kept g hg hs ho
    obtain ⟨c, d⟩ := h2.kept g (Nat.lt_of_lt_of_le hg h.size) hs b
    exact ⟨c.trans a, d⟩⟩
theorem Far.up {sb : Nat} {o : Value} {W W' : World} (h : Below W.heap.size W W') : Far sb o o W W' := ⟨h.size, fun g hg _ ho => ⟨h.block g hg, ho⟩⟩
theorem Try.infoU32p : (Try.prog.info? 23).map (fun i => (i.zero, i.size, i.bytes)) = some (some (.int .u32 0), 1, 4) := by kernel_rfl
set_option maxRecDepth 100000 in
set_option maxHeartbeats 1000000 in
theorem cutP_any (w W : World) (mb sb : Nat) (most x : Int) (L : List Int) (o : Value) (h : PSt w mb sb most L o W) (hm : 0 ≤ most ∧ most < 4294967296) (hx : 0 ≤ x ∧ x ≤ 4294967296) (hms : w.heap.size ≤ mb ∧ mb < sb) (hlen : L.length ≤ 1099511627776) :
    Calls Try.prog 41 #[.int .u64 x, .pointer (some ⟨mb, 0, none⟩), .pointer (some ⟨sb, 0, none⟩)] W fun e w' => e = .returned (.tuple #[]) ∧ ∃ o', PSt w mb sb most (noted most L x) o' w' ∧ Far sb o o' W w' := by
  obtain ⟨i0, hi, hz0, hz1, hz2⟩ := info_parts Try.infoU32p
  have H := Lib.hid h
  obtain ⟨h1, h2, h3, h4⟩ := h
  have c0 : W.cell? ⟨mb, 0, none⟩ = some (.int .u32 most) := by rw [cell_of_row W mb 0 _ _ (0, 0) h3]; rfl
  have c1 : W.cell? ⟨sb, 0, none⟩ = some o := by rw [cell_of_row W sb 0 _ _ (0, 0) h1]; rfl
  by_cases hx0 : 0 < x
  · by_cases hxm : x ≤ most
    · have hn : noted most L x = L ++ [x] := by unfold noted; rw [if_pos ⟨hx0, hxm⟩]
      have hwr : IntKind.u32.wrap x = x := by rw [IntKind.wrap_u32]; omega
      have hsz := lt_of_block h1
      have hob : o.ownBlock ≠ some sb := fun hh => by have := (h2.lt sb hh).1; omega
      have hom : o.ownBlock ≠ some mb := fun hh => by have := (h2.lt mb hh).1; omega
      rw [hn]
      have HO := Lib.hid h2
      have H1 := Lib.hid h1
      have H3 := Lib.hid h3
      have H4 := Lib.hid h4
      have HOB := Lib.hid hob
      have HOM := Lib.hid hom
      clear hn h1 h2 h3 h4 H hob hom
      go_enter Try.func41, Try.ntmps41
      go_wp2_with (at_builtin; refine wpList_push2 (v := o) rfl _ _ 27 rfl 23 i0 _ 1 4 Try.underlying27 hi hz0 hz1 hz2 rfl (by decide) (by decide) [.int .u32 x] rfl rfl (by simp) HO.out rfl (by intro u hu; rw [List.mem_singleton] at hu; subst hu; rfl) hlen (by omega) ?_; intro v2 w2 hown2 hgr2 hmv2; obtain ⟨A2, c2, rfl, _⟩ := owns_form hown2; have k1 := (hgr2.block sb (by omega) (fun hh => HOB.out hh.symm)).trans H1.out; have y0 : w2.cell? ⟨sb, 0, none⟩ = some o := by { rw [cell_of_row w2 sb 0 _ _ (0, 0) k1]; rfl }; have y1 : w2.frozen? ⟨sb, 0, none⟩ = false := frozen_of_row w2 sb 0 _ _ k1)
      all_goals (
        go_end0
        have k3 := (hgr2.block mb (by omega) (fun hh => HOM.out hh.symm)).trans H3.out
        refine ⟨rfl, _, ⟨heap_set1 k1, ?_, set_far k3 (by show mb ≠ sb; omega), ?_⟩, ?_, ?_⟩
        · have := fun u => owns_setOff (u := u) (g := sb) hown2 (by omega)
          simpa [ucells] using this _
        · exact (below_row H4.out HO.out hgr2 H4.out.size (by omega)).setCell (p := ⟨sb, 0, none⟩) (by show w.heap.size ≤ sb; omega) _
        · simpa using hgr2.size
        · intro g hg hgs hgo
          have e1 := hgr2.block g hg (fun hh => hgo hh.symm)
          refine ⟨?_, ?_⟩
          · rw [← e1]
            simp only [World.setCell, Array.getElem?_modify]
            rw [if_neg (by omega)]
          · rcases hmv2 with hmv2 | hmv2
            · rw [hmv2]; exact hgo
            · intro hh; have := hmv2 g hh; omega)
    · have hn : noted most L x = L := by unfold noted; rw [if_neg (by omega)]
      rw [hn]
      clear h1 h2 h3 h4 hn
      go_enter Try.func41, Try.ntmps41
      go_wp2
      go_end0
      exact ⟨rfl, o, H.out, Far.refl _ _ _⟩
  · have hn : noted most L x = L := by unfold noted; rw [if_neg (by omega)]
    rw [hn]
    clear h1 h2 h3 h4 hn
    go_enter Try.func41, Try.ntmps41
    go_wp2
    go_end0
    exact ⟨rfl, o, H.out, Far.refl _ _ _⟩
end Go.Proofs.Ythgmmajoinkblaa
