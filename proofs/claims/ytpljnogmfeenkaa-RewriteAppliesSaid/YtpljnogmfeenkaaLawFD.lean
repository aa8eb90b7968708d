/-
  The walk of the law FilterDecides (written by wip/gen/genlawfd.py).
-/
import Derived.Test.YtpljnogmfeenkaaFilt8
import Derived.Deep.DeepCutAuto
import Derived.Deep.RegionLawGrows
import Derived.Deep.RegionHeldLaw
import Derived.Deep.RegionHeld3
namespace Go.Proofs.Ytpljnogmfeenkaa
open Go Go.RowKit Go.Sort

def HeaderV.enc (h : HeaderV) : List Value := [.int .u32 h.src, .int .u32 h.dst, .int .u8 h.proto, .int .u16 h.sp, .int .u16 h.dp]
theorem header_len (h : HeaderV) : h.enc.length = 5 := rfl
def hcells (L : List HeaderV) : List Value := L.flatMap HeaderV.enc
theorem hcell {L : List HeaderV} {k i : Nat} {h : HeaderV} {v : Value} (hr : L[k]? = some h) (hv : h.enc[i]? = some v) : (hcells L)[k * 5 + i]? = some v := flat_get HeaderV.enc 5 header_len L k i h v hr hv
/-- A slice cut at its end. -/
theorem Rd.take {α : Type} {enc : α → List Value} {k : Nat} (hk : ∀ x, (enc x).length = k) {w : World} {B : Nat} {A : Option Addr} {c n m : Nat} {L : List α} (h : Rd w B k (.slice A n c) n (L.flatMap enc)) (hn : L.length = n) (hm : m ≤ n) :
    Rd w B k (.slice A m c) m ((L.take m).flatMap enc) := by
  obtain ⟨A', c', hv, hc, hl, hp⟩ := h
  injection hv with h1 h2 h3
  subst h1 h3
  have hlen : (L.take m).length = m := by simp; omega
  refine ⟨A, c, rfl, by omega, by rw [flat_len enc k hk, hlen], fun hm0 => ?_⟩
  obtain ⟨b, off, hA, hB, hcell⟩ := hp (by omega)
  refine ⟨b, off, hA, hB, fun j u hu => hcell j u ?_⟩
  have e : L.flatMap enc = (L.take m).flatMap enc ++ (L.drop m).flatMap enc := by rw [← List.flatMap_append, List.take_append_drop]
  rw [e, List.getElem?_append_left (List.getElem?_eq_some_iff.1 hu).1]
  exact hu

theorem src_cells {w W : World} {B b off k n c : Nat} {xs : List Value} (h : Rd w B k (.slice (some ⟨b, off, none⟩) n c) n xs) (hn : 0 < n) (hb : Below B w W) :
    ∀ j u, xs[j]? = some u → W.cell? ((⟨b, off, none⟩ : Addr).add j) = some u := by
  obtain ⟨b', off', c', hv, _, hB, hcell⟩ := h.pos hn
  injection hv with h1 _ _
  injection h1 with h1
  injection h1 with h1 h2
  subst h1 h2
  intro j u hu
  have e : (⟨b, off, none⟩ : Addr).add j = ⟨b, off + j, none⟩ := by simp [Addr.add]
  rw [e]
  exact (hb.cell (p := ⟨b, off + j, none⟩) hB).trans (hcell j u hu)
theorem new_at0 (w : World) (o : Obj) : (w.alloc o).drew.heap[w.heap.size]? = some o := heap_alloc_new w o
theorem new_at1 (w : World) (o p : Obj) : ((w.alloc o).alloc p).drew.heap[w.heap.size + 1]? = some p := (blk2 w o p).2
theorem new_at2 (w : World) (o p : Obj) : ((w.alloc o).alloc p).drew.heap[w.heap.size]? = some o := (blk2 w o p).1
theorem below_drew {B : Nat} {a w : World} (h : Below B a w) : Below B a w.drew := ⟨h.os, h.tape, h.output, h.size, h.block⟩
theorem below_grown0 {B : Nat} {a w w' : World} (h : Below B a w) (hB : B ≤ w.heap.size) (hg : w.grownBy w' none) : Below B a w' := h.grown hg hB (fun k hk => by cases hk)
theorem Try.infoRule : (Try.prog.info? 39).map (fun i => (i.zero, i.size, i.bytes)) = some (some (.agg #[.bool false, .int .i64 0, .int .u32 0, .int .i64 0, .int .u32 0, .int .i64 0, .int .u32 0, .int .u32 0, .int .u32 0, .int .u32 0]), 10, 64) := by kernel_rfl
theorem leafAfter {wc w2 : World} {base n : Nat} {xs : List Value} {nm : ByteArray} {v : Value} (hO : w2.ownsRow base 39 10 v n xs) (hb2 : Below wc.heap.size wc w2) :
    ∃ (g : Nat) (v2 : Value), Value.pointer (some ⟨w2.heap.size, 0, none⟩) = .pointer (some ⟨g, 0, none⟩) ∧ (w2.alloc (.cells #[.string nm, v] 34)).heap[g]? = some (.cells #[.string nm, v2] 34 (0, 0)) ∧ Rd (w2.alloc (.cells #[.string nm, v] 34)) (w2.alloc (.cells #[.string nm, v] 34)).heap.size 10 v2 n xs ∧ Hid (Below wc.heap.size wc (w2.alloc (.cells #[.string nm, v] 34))) :=
  ⟨w2.heap.size, v, rfl, blk1 w2 _, ((Rd.of_own hO).below (below1 w2 _)).mono (by simp), hb2.alloc hb2.size _⟩
theorem leafBefore {wc w2 : World} {base n G : Nat} {xs : List Value} {nm : ByteArray} {v a b : Value} (hO : w2.ownsRow base 39 10 v n xs) (hq : w2.heap[G]? = some (.cells #[a, b] 34 (0, 0))) (hG : G < base) (hGw : wc.heap.size ≤ G) (hb2 : Below wc.heap.size wc w2) :
    ∃ (g : Nat) (v2 : Value), Value.pointer (some ⟨G, 0, none⟩) = .pointer (some ⟨g, 0, none⟩) ∧ ((w2.setCell ⟨G, 0, none⟩ (.string nm)).setCell ⟨G, 1, none⟩ v).heap[g]? = some (.cells #[.string nm, v2] 34 (0, 0)) ∧ Rd ((w2.setCell ⟨G, 0, none⟩ (.string nm)).setCell ⟨G, 1, none⟩ v) ((w2.setCell ⟨G, 0, none⟩ (.string nm)).setCell ⟨G, 1, none⟩ v).heap.size 10 v2 n xs ∧ Hid (Below wc.heap.size wc ((w2.setCell ⟨G, 0, none⟩ (.string nm)).setCell ⟨G, 1, none⟩ v)) :=
  ⟨G, v, rfl, set_1 (set_0 hq), Rd.of_own (owns_kept_lt hO (only_setCell (only_setCell (World.grownBy.refl w2 (some G)) (.inl rfl) _) (.inl rfl) _) hG), (hb2.setCell hGw _).setCell hGw _⟩
theorem far2 {w : World} {G a j : Nat} {u v x : Value} (h : a ≠ G) (hx : w.cell? ⟨a, j, none⟩ = some x) : ((w.setCell ⟨G, 0, none⟩ u).setCell ⟨G, 1, none⟩ v).cell? ⟨a, j, none⟩ = some x :=
  (World.cell?_of_block (w := w.setCell ⟨G, 0, none⟩ u) (Below.heap_setCell _ _ _ _ h)).trans ((World.cell?_of_block (w := w) (Below.heap_setCell _ _ _ _ h)).trans hx)
theorem liftLeaf {w wc wx : World} {n : Nat} {p : Value} {q : ByteArray} {xs : List Value} {u : Value}
    (h : ∃ (g : Nat) (v2 : Value), p = .pointer (some ⟨g, 0, none⟩) ∧ wx.heap[g]? = some (.cells #[.string q, v2] 34 (0, 0)) ∧ Rd wx wx.heap.size 10 v2 n xs ∧ Hid (Below wc.heap.size wc wx))
    {A B : Obj} (h0 : wc.heap[w.heap.size]? = some A) (h1 : wc.heap[w.heap.size + 1]? = some B) (hR : Rd wc w.heap.size 10 u n xs) (hb : Hid (Below w.heap.size w wc)) :
    ∃ (g : Nat) (v2 : Value), p = .pointer (some ⟨g, 0, none⟩) ∧ wx.heap[g]? = some (.cells #[.string q, v2] 34 (0, 0)) ∧ Rd wx wx.heap.size 10 v2 n xs ∧ wx.heap[w.heap.size]? = some A ∧ wx.heap[w.heap.size + 1]? = some B ∧ Rd wx w.heap.size 10 u n xs ∧ Hid (Below w.heap.size w wx) := by
  obtain ⟨g, v2, h2, h3, h4, h5⟩ := h
  have hx := h5.out
  exact ⟨g, v2, h2, h3, h4, blk_below hx h0, blk_below hx h1, hR.below (hx.mono hb.out.size), hb.out.trans (hx.mono hb.out.size)⟩
theorem fixO {w : World} {base n c : Nat} {A : Option Addr} {xs : List Value} (h : w.ownsRow base 39 10 (.slice A (0 + n) c) (0 + n) ([] ++ xs)) : w.ownsRow base 39 10 (.slice A n c) n xs := by
  rw [Nat.zero_add] at h; exact h
theorem blt0 (w : World) (o p : Obj) : w.heap.size < ((w.alloc o).alloc p).drew.heap.size := by
  have h : ((w.alloc o).alloc p).drew.heap.size = w.heap.size + 1 + 1 := by show ((w.alloc o).alloc p).heap.size = _; simp
  omega
theorem blt1 (w : World) (o p : Obj) : w.heap.size + 1 < ((w.alloc o).alloc p).drew.heap.size := by
  have h : ((w.alloc o).alloc p).drew.heap.size = w.heap.size + 1 + 1 := by show ((w.alloc o).alloc p).heap.size = _; simp
  omega
theorem rcells_one (L : List RuleV) : ∀ u ∈ rcells L, u.oneCell' = true := by
  intro u hu
  obtain ⟨r, _, hr⟩ := List.mem_flatMap.1 hu
  simp only [RuleV.enc, List.mem_cons, List.not_mem_nil, or_false] at hr
  rcases hr with rfl | rfl | rfl | rfl | rfl | rfl | rfl | rfl | rfl | rfl <;> rfl

theorem decides_ok (nm : ByteArray) (L : List RuleV) (v : Value) (h : HeaderV) (w : World) (hr : Rd w w.heap.size 10 v L.length (rcells L)) (h1 : filtE L = 0) :
    Calls Try.prog 20 #[.agg #[.string nm, v], .agg #[.int .u32 h.src, .int .u32 h.dst, .int .u8 h.proto, .int .u16 h.sp, .int .u16 h.dp]] w fun e w' => e = .returned (.tuple #[.int .i64 (decN L h), .int .i64 0]) ∧ Below w.heap.size w w' := by
  have := decides_any nm L v h w hr
  rw [decR_ok h h1, h1] at this
  exact this
theorem decides_no (nm : ByteArray) (L : List RuleV) (v : Value) (h : HeaderV) (w : World) (hr : Rd w w.heap.size 10 v L.length (rcells L)) (h1 : ¬ filtE L = 0) :
    Calls Try.prog 20 #[.agg #[.string nm, v], .agg #[.int .u32 h.src, .int .u32 h.dst, .int .u8 h.proto, .int .u16 h.sp, .int .u16 h.dp]] w fun e w' => e = .returned (.tuple #[.int .i64 0, .int .i64 (filtE L)]) ∧ Below w.heap.size w w' := by
  have := decides_any nm L v h w hr
  rw [decR_no h h1] at this
  exact this
theorem permits_ok (nm : ByteArray) (L : List RuleV) (v : Value) (h : HeaderV) (w : World) (hr : Rd w w.heap.size 10 v L.length (rcells L)) (h1 : filtE L = 0) :
    Calls Try.prog 21 #[.agg #[.string nm, v], .agg #[.int .u32 h.src, .int .u32 h.dst, .int .u8 h.proto, .int .u16 h.sp, .int .u16 h.dp]] w fun e w' => e = .returned (.tuple #[.bool (permN L h), .int .i64 0]) ∧ Below w.heap.size w w' := by
  have := permits_any nm L v h w hr
  rw [permB_ok h h1, h1] at this
  exact this
theorem permits_no (nm : ByteArray) (L : List RuleV) (v : Value) (h : HeaderV) (w : World) (hr : Rd w w.heap.size 10 v L.length (rcells L)) (h1 : ¬ filtE L = 0) :
    Calls Try.prog 21 #[.agg #[.string nm, v], .agg #[.int .u32 h.src, .int .u32 h.dst, .int .u8 h.proto, .int .u16 h.sp, .int .u16 h.dp]] w fun e w' => e = .returned (.tuple #[.bool false, .int .i64 (filtE L)]) ∧ Below w.heap.size w w' := by
  have := permits_any nm L v h w hr
  rw [permB_no h h1] at this
  exact this

/-- What the law's own memory holds behind its first statements: the filter as it was handed in (cut), its copy, the rule. -/
def FDst (nm : ByteArray) (M : List RuleV) (A2 : Option Addr) (c0 : Nat) (A3 : Option Addr) (c3 : Nat) (r : RuleV) (w : World) (g : Nat) (W : World) : Prop :=
  W.heap[g]? = some (.cells #[.string nm, .slice A3 M.length c3] 34 (0, 0)) ∧ Rd W W.heap.size 10 (.slice A3 M.length c3) M.length (rcells M) ∧ W.heap[w.heap.size]? = some (.cells #[.string nm, .slice A2 M.length c0] 34 (0, 0)) ∧ W.heap[w.heap.size + 1]? = some (.cells #[.bool r.permit, .int .i64 r.proto, .int .u32 r.sa, .int .i64 r.sn, .int .u32 r.da, .int .i64 r.dn, .int .u32 r.sl, .int .u32 r.sh, .int .u32 r.dl, .int .u32 r.dh] 39 (0, 0)) ∧ Rd W w.heap.size 10 (.slice A2 M.length c0) M.length (rcells M) ∧ Below w.heap.size w W
section
variable {nm : ByteArray} {M : List RuleV} {A2 : Option Addr} {c0 : Nat} {A3 : Option Addr} {c3 : Nat} {r : RuleV} {w : World} {g : Nat} {W W' : World}
theorem FDst.next (h : FDst nm M A2 c0 A3 c3 r w g W) (hb : Below W.heap.size W W') : FDst nm M A2 c0 A3 c3 r w g W' := by
  obtain ⟨h1, h2, h3, h4, h5, h6⟩ := h
  exact ⟨blk_below hb h1, (h2.below hb).mono hb.size, blk_below hb h3, blk_below hb h4, h5.below (hb.mono h6.size), h6.trans (hb.mono h6.size)⟩
theorem FDst.own (h : FDst nm M A2 c0 A3 c3 r w g W) : W.cell? ⟨g, 0, none⟩ = some (.string nm) ∧ W.cell? ⟨g, 1, none⟩ = some (.slice A3 M.length c3) := ⟨(two_cells h.1).1, (two_cells h.1).2.1⟩
theorem FDst.its (h : FDst nm M A2 c0 A3 c3 r w g W) : W.cell? ⟨w.heap.size, 0, none⟩ = some (.string nm) ∧ W.cell? ⟨w.heap.size, 1, none⟩ = some (.slice A2 M.length c0) := ⟨(two_cells h.2.2.1).1, (two_cells h.2.2.1).2.1⟩
theorem FDst.rule (h : FDst nm M A2 c0 A3 c3 r w g W) : W.cell? ⟨w.heap.size + 1, 0, none⟩ = some (.bool r.permit) ∧ W.cell? ⟨w.heap.size + 1, 1, none⟩ = some (.int .i64 r.proto) ∧ W.cell? ⟨w.heap.size + 1, 2, none⟩ = some (.int .u32 r.sa) ∧ W.cell? ⟨w.heap.size + 1, 3, none⟩ = some (.int .i64 r.sn) ∧ W.cell? ⟨w.heap.size + 1, 4, none⟩ = some (.int .u32 r.da) ∧ W.cell? ⟨w.heap.size + 1, 5, none⟩ = some (.int .i64 r.dn) ∧ W.cell? ⟨w.heap.size + 1, 6, none⟩ = some (.int .u32 r.sl) ∧ W.cell? ⟨w.heap.size + 1, 7, none⟩ = some (.int .u32 r.sh) ∧ W.cell? ⟨w.heap.size + 1, 8, none⟩ = some (.int .u32 r.dl) ∧ W.cell? ⟨w.heap.size + 1, 9, none⟩ = some (.int .u32 r.dh) :=
  ⟨cell_of_row W (w.heap.size + 1) 0 _ _ (0, 0) h.2.2.2.1, cell_of_row W (w.heap.size + 1) 1 _ _ (0, 0) h.2.2.2.1, cell_of_row W (w.heap.size + 1) 2 _ _ (0, 0) h.2.2.2.1, cell_of_row W (w.heap.size + 1) 3 _ _ (0, 0) h.2.2.2.1, cell_of_row W (w.heap.size + 1) 4 _ _ (0, 0) h.2.2.2.1, cell_of_row W (w.heap.size + 1) 5 _ _ (0, 0) h.2.2.2.1, cell_of_row W (w.heap.size + 1) 6 _ _ (0, 0) h.2.2.2.1, cell_of_row W (w.heap.size + 1) 7 _ _ (0, 0) h.2.2.2.1, cell_of_row W (w.heap.size + 1) 8 _ _ (0, 0) h.2.2.2.1, cell_of_row W (w.heap.size + 1) 9 _ _ (0, 0) h.2.2.2.1⟩
theorem FDst.rd (h : FDst nm M A2 c0 A3 c3 r w g W) : Rd W W.heap.size 10 (.slice A3 M.length c3) M.length (rcells M) := h.2.1
theorem FDst.rdf (h : FDst nm M A2 c0 A3 c3 r w g W) : Rd W W.heap.size 10 (.slice A2 M.length c0) M.length (rcells M) := h.2.2.2.2.1.mono h.2.2.2.2.2.size
theorem FDst.bel (h : FDst nm M A2 c0 A3 c3 r w g W) : Below w.heap.size w W := h.2.2.2.2.2
theorem FDst.lt (h : FDst nm M A2 c0 A3 c3 r w g W) : g < W.heap.size ∧ w.heap.size < W.heap.size ∧ w.heap.size + 1 < W.heap.size := ⟨lt_of_block h.1, lt_of_block h.2.2.1, lt_of_block h.2.2.2.1⟩
theorem ask_cell {A : List HeaderV} {b1 o1 k i : Nat} {h : HeaderV} {v : Value} (hb : Below w.heap.size w W) (hbl : b1 < w.heap.size) (hc : ∀ i j u, (hcells A)[i * 5 + j]? = some u → w.cell? ⟨b1, o1 + i * 5 + j, none⟩ = some u) (hk : A[k]? = some h) (hv : h.enc[i]? = some v) : W.cell? ⟨b1, o1 + k * 5 + i, none⟩ = some v :=
  (hb.cell (p := ⟨b1, o1 + k * 5 + i, none⟩) hbl).trans (hc k i v (hcell hk hv))
end

set_option maxRecDepth 100000 in
set_option maxHeartbeats 4000000 in
theorem lawFD_any (nm : ByteArray) (L : List RuleV) (vL : Value) (A : List HeaderV) (vA : Value) (r : RuleV) (w : World) (hL : Rd w w.heap.size 10 vL L.length (rcells L)) (hA : Rd w w.heap.size 5 vA A.length (hcells A)) :
    Calls Try.prog 4 #[.agg #[.string nm, vL], vA, .agg #[.bool r.permit, .int .i64 r.proto, .int .u32 r.sa, .int .i64 r.sn, .int .u32 r.da, .int .i64 r.dn, .int .u32 r.sl, .int .u32 r.sh, .int .u32 r.dl, .int .u32 r.dh]] w fun e w' => e = .returned (.bool true) ∧ Below w.heap.size w w' := by
  obtain ⟨A0, c0, rfl, hc0⟩ := hL.form
  obtain ⟨A1, c1, rfl, hc1⟩ := hA.form
  have HL := Lib.hid hL
  have HA := Lib.hid hA
  clear hL hA
  go_enter Try.func4, Try.ntmps4
  go_upto_if 17 with fail
  go_cut [] (fun wx => ∃ (M : List RuleV) (A2 : Option Addr), M.length ≤ 300 ∧ wx.heap[w.heap.size]? = some (.cells #[.string nm, .slice A2 M.length c0] 34 (0, 0)) ∧ wx.heap[w.heap.size + 1]? = some (.cells #[.bool r.permit, .int .i64 r.proto, .int .u32 r.sa, .int .i64 r.sn, .int .u32 r.da, .int .i64 r.dn, .int .u32 r.sl, .int .u32 r.sh, .int .u32 r.dl, .int .u32 r.dh] 39 (0, 0)) ∧ Rd wx w.heap.size 10 (.slice A2 M.length c0) M.length (rcells M) ∧ Hid (Below w.heap.size w wx))
  case first =>
    by_cases hlen : 300 < L.length
    · have h1 : (300 : Int) < (L.length : Int) := by omega
      have ht := (HL.out.take (m := 300) rule_len rfl (by omega)).below (below2 w (.cells #[.string nm, .slice A0 300 c0] 34) (.cells #[.bool r.permit, .int .i64 r.proto, .int .u32 r.sa, .int .i64 r.sn, .int .u32 r.da, .int .i64 r.dn, .int .u32 r.sl, .int .u32 r.sh, .int .u32 r.dl, .int .u32 r.dh] 39))
      have HT := Lib.hid ht
      clear ht
      obtain ⟨t0, t1⟩ := blk2 w (.cells #[.string nm, .slice A0 300 c0] 34) (.cells #[.bool r.permit, .int .i64 r.proto, .int .u32 r.sa, .int .i64 r.sn, .int .u32 r.da, .int .i64 r.dn, .int .u32 r.sl, .int .u32 r.sh, .int .u32 r.dl, .int .u32 r.dh] 39)
      have K0 := Lib.hid t0
      have K1 := Lib.hid t1
      clear t0 t1
      go_wp2
      go_meet
      have e3 : (L.take 300).length = 300 := by simp; omega
      exact ⟨L.take 300, A0, by omega, by rw [e3]; exact K0.out, K1.out, by rw [e3]; exact HT.out, below2 w _ _⟩
    · have h1 : ¬ (300 : Int) < (L.length : Int) := by omega
      have ht := HL.out.below (below2 w (.cells #[.string nm, .slice A0 L.length c0] 34) (.cells #[.bool r.permit, .int .i64 r.proto, .int .u32 r.sa, .int .i64 r.sn, .int .u32 r.da, .int .i64 r.dn, .int .u32 r.sl, .int .u32 r.sh, .int .u32 r.dl, .int .u32 r.dh] 39))
      have HT := Lib.hid ht
      clear ht
      go_wp2
      go_meet
      obtain ⟨t0, t1⟩ := blk2 w (.cells #[.string nm, .slice A0 L.length c0] 34) (.cells #[.bool r.permit, .int .i64 r.proto, .int .u32 r.sa, .int .i64 r.sn, .int .u32 r.da, .int .i64 r.dn, .int .u32 r.sl, .int .u32 r.sh, .int .u32 r.dl, .int .u32 r.dh] 39)
      exact ⟨L, A0, by omega, t0, t1, HT.out, below2 w _ _⟩
  case rest =>
    obtain ⟨M, A2, hlen, J0, J1, hR, hb⟩ := hcut
    clear HL
    obtain ⟨f0, f1, _, _⟩ := two_cells J0
    have l0 := lt_of_block J0
    go_upto_region 3 with fail
    go_cut [7] (fun s7 wx => ∃ (g : Nat) (v2 : Value), s7 = .pointer (some ⟨g, 0, none⟩) ∧ wx.heap[g]? = some (.cells #[.string nm, v2] 34 (0, 0)) ∧ Rd wx wx.heap.size 10 v2 M.length (rcells M) ∧ wx.heap[w.heap.size]? = some (.cells #[.string nm, .slice A2 M.length c0] 34 (0, 0)) ∧ wx.heap[w.heap.size + 1]? = some (.cells #[.bool r.permit, .int .i64 r.proto, .int .u32 r.sa, .int .i64 r.sn, .int .u32 r.da, .int .i64 r.dn, .int .u32 r.sl, .int .u32 r.sh, .int .u32 r.dl, .int .u32 r.dh] 39 (0, 0)) ∧ Rd wx w.heap.size 10 (.slice A2 M.length c0) M.length (rcells M) ∧ Hid (Below w.heap.size w wx))
    case first =>
      by_cases hm : M.length = 0
      · have e1 : M = [] := List.eq_nil_of_length_eq_zero hm
        subst e1
        rcases A2 with _ | ad
        · have f2 : wc.cell? ⟨w.heap.size, 1, none⟩ = some (.slice none 0 c0) := f1
          go_region_held3 (fun w' => w'.cell? ⟨w.heap.size, 0, none⟩ = some (.string nm) ∧ w'.cell? ⟨w.heap.size, 1, none⟩ = some (.slice none 0 c0)) (go_keep) (fail)
          all_goals (go_wp2_with fail; go_meet; first | exact liftLeaf ⟨wc.heap.size + 1, _, rfl, new_at1 _ _ _, ⟨_, 0, rfl, by omega, rfl, fun h => absurd h (by simp)⟩, by repeat (first | exact Below.refl _ _ | assumption | refine below_drew ?_ | refine Below.alloc ?_ (by first | omega | (simp; done) | (simp; omega)) _)⟩ J0 J1 hR hb | exact liftLeaf ⟨wc.heap.size, _, rfl, new_at2 _ _ _, ⟨_, 0, rfl, by omega, rfl, fun h => absurd h (by simp)⟩, by repeat (first | exact Below.refl _ _ | assumption | refine below_drew ?_ | refine Below.alloc ?_ (by first | omega | (simp; done) | (simp; omega)) _)⟩ J0 J1 hR hb)
        · have f2 : wc.cell? ⟨w.heap.size, 1, none⟩ = some (.slice (some ad) 0 c0) := f1
          go_region_held3 (fun w' => w'.cell? ⟨w.heap.size, 0, none⟩ = some (.string nm) ∧ w'.cell? ⟨w.heap.size, 1, none⟩ = some (.slice (some ad) 0 c0)) (go_keep) (fail)
          all_goals (go_wp2_with fail; go_meet; first | exact liftLeaf ⟨wc.heap.size + 1, _, rfl, new_at1 _ _ _, ⟨_, 0, rfl, by omega, rfl, fun h => absurd h (by simp)⟩, by repeat (first | exact Below.refl _ _ | assumption | refine below_drew ?_ | refine Below.alloc ?_ (by first | omega | (simp; done) | (simp; omega)) _)⟩ J0 J1 hR hb | exact liftLeaf ⟨wc.heap.size, _, rfl, new_at2 _ _ _, ⟨_, 0, rfl, by omega, rfl, fun h => absurd h (by simp)⟩, by repeat (first | exact Below.refl _ _ | assumption | refine below_drew ?_ | refine Below.alloc ?_ (by first | omega | (simp; done) | (simp; omega)) _)⟩ J0 J1 hR hb)
      · obtain ⟨i0, hi, hz0, hz1, hz2⟩ := info_parts Try.infoRule
        obtain ⟨b, off, c, hv, hc, hbB, hcell⟩ := hR.pos (by omega)
        injection hv with hv1 hv2 hv3
        subst hv1 hv3
        clear hcell
        have hcl : (rcells M).length = M.length * 10 := flat_len RuleV.enc 10 rule_len M
        have hone : ∀ u ∈ rcells M, u.oneCell' = true := rcells_one M
        have hR' := Lib.hid hR
        have hb' := Lib.hid hb
        have hJ0 := Lib.hid J0
        clear hR J0
        go_region_held_law (fun w' => w'.cell? ⟨w.heap.size, 0, none⟩ = some (.string nm) ∧ w'.cell? ⟨w.heap.size, 1, none⟩ = some (.slice (some ⟨b, off, none⟩) M.length c0)) (first | exact ⟨g0, g1⟩ | exact ⟨far2 (by omega) g0, far2 (by omega) g1⟩ | go_keep) ((
          refine step_append_grows rfl (.tmp 24) (.tmp 26) 32 rfl 39 i0 _ 10 64 Try.underlying32 hi hz0 hz1 hz2 rfl (by decide) _ 0 0 [] rfl (fun _ => ⟨rfl, rfl⟩) rfl (fun _ _ j u hu => by simp at hu) ⟨b, off, none⟩ M.length c0 (rcells M) rfl hcl (src_cells hR'.out (by omega) (by repeat (first | exact Below.refl _ _ | assumption | refine below_drew ?_ | refine Below.alloc ?_ (by first | omega | (simp; done) | (simp; omega)) _))) hone (by omega) (by unfold maxLen; omega) (by omega) ?_
          intro v2 w2 hown hg
          obtain ⟨va, vc, rfl, _⟩ := owns_form hown
          have HO := Lib.hid hown
          have HG := Lib.hid hg
          clear hown hg
          have hb2 : Below wc.heap.size wc w2 := below_grown0 (by repeat (first | exact Below.refl _ _ | assumption | refine below_drew ?_ | refine Below.alloc ?_ (by first | omega | (simp; done) | (simp; omega)) _)) (by first | omega | (simp; done) | (simp; omega)) HG.out
          have g0 := (hb2.cell (p := ⟨w.heap.size, 0, none⟩) l0).trans f0
          have g1 := (hb2.cell (p := ⟨w.heap.size, 1, none⟩) l0).trans f1
          have n0 : w.heap.size ≠ w2.heap.size := by have := hb2.size; omega
          have n1 : w.heap.size < w2.heap.size := by have := hb2.size; omega
          first
            | (have q0 : w2.heap[wc.heap.size]? = some (Obj.cells #[.string ⟨#[]⟩, .slice none 0 0] 34 (0, 0)) := by rw [HG.out.block (wc.heap.size) (by first | omega | (simp; done) | (simp; omega)) (by simp), new_at2]
               have q2 := two_cells q0
               obtain ⟨_, _, _, _⟩ := q2
               have Q0 := Lib.hid q0
               clear q0)
            | skip
          first
            | (have q0 : w2.heap[wc.heap.size + 1]? = some (Obj.cells #[.string ⟨#[]⟩, .slice none 0 0] 34 (0, 0)) := by rw [HG.out.block (wc.heap.size + 1) (by first | omega | (simp; done) | (simp; omega)) (by simp), new_at1]
               have q2 := two_cells q0
               obtain ⟨_, _, _, _⟩ := q2
               have Q1 := Lib.hid q0
               clear q0)
            | skip
          skip))
        all_goals (go_wp2_with fail; go_meet; first | exact liftLeaf (leafAfter (fixO HO.out) hb2) hJ0.out J1 hR'.out hb'.out | exact liftLeaf (leafBefore (fixO HO.out) Q0.out (blt0 _ _ _) (Nat.le_refl _) hb2) hJ0.out J1 hR'.out hb'.out | exact liftLeaf (leafBefore (fixO HO.out) Q1.out (blt1 _ _ _) (Nat.le_succ _) hb2) hJ0.out J1 hR'.out hb'.out)
    case rest =>
      clear J0 J1 hR hb f0 f1 l0
      obtain ⟨g, v2, hs7, hg, hR2, J0, J1, hR, hb⟩ := hcut
      subst hs7
      obtain ⟨A3, c3, rfl, hc3⟩ := hR2.form
      have st : FDst nm M A2 c0 A3 c3 r w g wc := ⟨hg, hR2, J0, J1, hR, hb.out⟩
      clear hg hR2 J0 J1 hR hb
      have hc1 := refFiltCheck_any nm M _ wc st.rdf
      by_cases hE' : filtE M = 0
      · have hE := Lib.hid hE'
        rw [hE'] at hc1
        have Hc1 := Lib.hid hc1
        clear hc1 hE'
        obtain ⟨x0, x1⟩ := st.own
        obtain ⟨y0, y1⟩ := st.its
        go_wp2_with fail
        refine Hc1.out.mono ?_
        rintro e w1 ⟨rfl, hq⟩
        clear x0 x1 y0 y1
        have st1 := st.next hq
        have hc2 := filtCheck_any nm M _ w1 st1.rd
        rw [hE.out] at hc2
        have Hc2 := Lib.hid hc2
        clear hc2
        obtain ⟨x0, x1⟩ := st1.own
        go_wp2_with fail
        refine Hc2.out.mono ?_
        rintro e w2 ⟨rfl, hq2⟩
        clear x0 x1
        have st2 := st1.next hq2
        clear Hc1 Hc2 hq hq2 st st1
        go_wp2
        go_loopw [9, 10, 11, 12, 13] (fun i _ _ _ _ wr => ∃ k : Nat, i = .int .i64 k ∧ k ≤ 30 ∧ FDst nm M A2 c0 A3 c3 r w g wr) (fun i _ _ _ _ _ => 30 - (intOf i).toNat)
        case atStart => exact ⟨0, rfl, by omega, st2⟩
        case round =>
          obtain ⟨k, rfl, hk30, st⟩ := hrel
          by_cases hlt : k < A.length
          · have hI : (k : Int) < (A.length : Int) := by omega
            by_cases hl2 : k < 30
            · have hI2 : (k : Int) < 30 := by omega
              obtain ⟨h, hk⟩ : ∃ h, A[k]? = some h := ⟨_, List.getElem?_eq_getElem hlt⟩
              obtain ⟨b1, o1, c1', hv1, _, hbl, hask⟩ := HA.out.posAt (by omega)
              injection hv1 with hv1a _ hv1c
              subst hv1a hv1c
              have HC := Lib.hid hask
              clear hask
              obtain ⟨x0, x1⟩ := st.own
              have a0 : wr.cell? ⟨b1, o1 + k * 5, none⟩ = some (.int .u32 h.src) := ask_cell (i := 0) st.bel hbl HC.out hk rfl
              have a1 : wr.cell? ⟨b1, o1 + k * 5 + 1, none⟩ = some (.int .u32 h.dst) := ask_cell (i := 1) st.bel hbl HC.out hk rfl
              have a2 : wr.cell? ⟨b1, o1 + k * 5 + 2, none⟩ = some (.int .u8 h.proto) := ask_cell (i := 2) st.bel hbl HC.out hk rfl
              have a3 : wr.cell? ⟨b1, o1 + k * 5 + 3, none⟩ = some (.int .u16 h.sp) := ask_cell (i := 3) st.bel hbl HC.out hk rfl
              have a4 : wr.cell? ⟨b1, o1 + k * 5 + 4, none⟩ = some (.int .u16 h.dp) := ask_cell (i := 4) st.bel hbl HC.out hk rfl
              have Fx0 := cell_regrown x0
              have Fx1 := cell_regrown x1
              have Fa0 := cell_regrown a0
              have Fa1 := cell_regrown a1
              have Fa2 := cell_regrown a2
              have Fa3 := cell_regrown a3
              have Fa4 := cell_regrown a4
              go_wp2_with fail
              refine wp_region_quiet_below (by kernel_rfl) (by kernel_rfl) ?_
              repeat (first | go_big_quiet_step ((first | (go_at_call 20; exact Calls.regrown_of (decides_ok nm M _ h _ (st.next (below_regrown wr _ _)).rd hE.out)))) | quiet_step ((first | (go_at_call 20; exact Calls.regrown_of (decides_ok nm M _ h _ (st.next (below_regrown wr _ _)).rd hE.out)))))
              refine wpQuiet_nil ?_
              intro _ hw'
              obtain ⟨⟨nq, osq⟩, hw''⟩ := hw'
              subst hw''
              have hq := below_regrown wr nq osq
              clear Fx0 Fx1 Fa0 Fa1 Fa2 Fa3 Fa4 x0 x1 a0 a1 a2 a3 a4
              have st1 := st.next hq
              generalize grow (redrawn wr nq) osq = w1 at *
              clear hq
              obtain ⟨x0, x1⟩ := st1.own
              have a0 : w1.cell? ⟨b1, o1 + k * 5, none⟩ = some (.int .u32 h.src) := ask_cell (i := 0) st1.bel hbl HC.out hk rfl
              have a1 : w1.cell? ⟨b1, o1 + k * 5 + 1, none⟩ = some (.int .u32 h.dst) := ask_cell (i := 1) st1.bel hbl HC.out hk rfl
              have a2 : w1.cell? ⟨b1, o1 + k * 5 + 2, none⟩ = some (.int .u8 h.proto) := ask_cell (i := 2) st1.bel hbl HC.out hk rfl
              have a3 : w1.cell? ⟨b1, o1 + k * 5 + 3, none⟩ = some (.int .u16 h.sp) := ask_cell (i := 3) st1.bel hbl HC.out hk rfl
              have a4 : w1.cell? ⟨b1, o1 + k * 5 + 4, none⟩ = some (.int .u16 h.dp) := ask_cell (i := 4) st1.bel hbl HC.out hk rfl
              have Fx0 := cell_regrown x0
              have Fx1 := cell_regrown x1
              have Fa0 := cell_regrown a0
              have Fa1 := cell_regrown a1
              have Fa2 := cell_regrown a2
              have Fa3 := cell_regrown a3
              have Fa4 := cell_regrown a4
              go_wp2
              refine wp_region_quiet_below (by kernel_rfl) (by kernel_rfl) ?_
              repeat (first | go_big_quiet_step ((first | (go_at_call 21; exact Calls.regrown_of (permits_ok nm M _ h _ (st1.next (below_regrown w1 _ _)).rd hE.out)))) | quiet_step ((first | (go_at_call 21; exact Calls.regrown_of (permits_ok nm M _ h _ (st1.next (below_regrown w1 _ _)).rd hE.out)))))
              refine wpQuiet_nil ?_
              intro _ hw'
              obtain ⟨⟨nq, osq⟩, hw''⟩ := hw'
              subst hw''
              have hq := below_regrown w1 nq osq
              clear Fx0 Fx1 Fa0 Fa1 Fa2 Fa3 Fa4 x0 x1 a0 a1 a2 a3 a4
              have st2 := st1.next hq
              generalize grow (redrawn w1 nq) osq = w2 at *
              clear hq
              have hfr : (fitsB r h != fitsB r h) = false := by simp
              obtain ⟨z0, z1, z2, z3, z4, z5, z6, z7, z8, z9⟩ := st2.rule
              have a0 : w2.cell? ⟨b1, o1 + k * 5, none⟩ = some (.int .u32 h.src) := ask_cell (i := 0) st2.bel hbl HC.out hk rfl
              have a1 : w2.cell? ⟨b1, o1 + k * 5 + 1, none⟩ = some (.int .u32 h.dst) := ask_cell (i := 1) st2.bel hbl HC.out hk rfl
              have a2 : w2.cell? ⟨b1, o1 + k * 5 + 2, none⟩ = some (.int .u8 h.proto) := ask_cell (i := 2) st2.bel hbl HC.out hk rfl
              have a3 : w2.cell? ⟨b1, o1 + k * 5 + 3, none⟩ = some (.int .u16 h.sp) := ask_cell (i := 3) st2.bel hbl HC.out hk rfl
              have a4 : w2.cell? ⟨b1, o1 + k * 5 + 4, none⟩ = some (.int .u16 h.dp) := ask_cell (i := 4) st2.bel hbl HC.out hk rfl
              have Fz0 := cell_regrown z0
              have Fz1 := cell_regrown z1
              have Fz2 := cell_regrown z2
              have Fz3 := cell_regrown z3
              have Fz4 := cell_regrown z4
              have Fz5 := cell_regrown z5
              have Fz6 := cell_regrown z6
              have Fz7 := cell_regrown z7
              have Fz8 := cell_regrown z8
              have Fz9 := cell_regrown z9
              have Fa0 := cell_regrown a0
              have Fa1 := cell_regrown a1
              have Fa2 := cell_regrown a2
              have Fa3 := cell_regrown a3
              have Fa4 := cell_regrown a4
              go_wp2
              refine wp_region_quiet_below (by kernel_rfl) (by kernel_rfl) ?_
              repeat (first | go_big_quiet_step ((first | (go_at_call 22; exact Calls.regrown_of (fits_any r h _)) | (go_at_call 23; exact Calls.regrown_of (refFits_any r h _)))) | quiet_step ((first | (go_at_call 22; exact Calls.regrown_of (fits_any r h _)) | (go_at_call 23; exact Calls.regrown_of (refFits_any r h _)))))
              refine wpQuiet_nil ?_
              intro _ hw'
              obtain ⟨⟨nq, osq⟩, hw''⟩ := hw'
              subst hw''
              have hq := below_regrown w2 nq osq
              clear Fz0 Fz1 Fz2 Fz3 Fz4 Fz5 Fz6 Fz7 Fz8 Fz9 Fa0 Fa1 Fa2 Fa3 Fa4 z0 z1 z2 z3 z4 z5 z6 z7 z8 z9 a0 a1 a2 a3 a4
              have st3 := st2.next hq
              generalize grow (redrawn w2 nq) osq = w3 at *
              clear hq
              have hdr : (decN M h != decN M h) = false := by simp
              have hpr : (permN M h != permN M h) = false := by simp
              obtain ⟨y0, y1⟩ := st3.its
              have a0 : w3.cell? ⟨b1, o1 + k * 5, none⟩ = some (.int .u32 h.src) := ask_cell (i := 0) st3.bel hbl HC.out hk rfl
              have a1 : w3.cell? ⟨b1, o1 + k * 5 + 1, none⟩ = some (.int .u32 h.dst) := ask_cell (i := 1) st3.bel hbl HC.out hk rfl
              have a2 : w3.cell? ⟨b1, o1 + k * 5 + 2, none⟩ = some (.int .u8 h.proto) := ask_cell (i := 2) st3.bel hbl HC.out hk rfl
              have a3 : w3.cell? ⟨b1, o1 + k * 5 + 3, none⟩ = some (.int .u16 h.sp) := ask_cell (i := 3) st3.bel hbl HC.out hk rfl
              have a4 : w3.cell? ⟨b1, o1 + k * 5 + 4, none⟩ = some (.int .u16 h.dp) := ask_cell (i := 4) st3.bel hbl HC.out hk rfl
              have Fy0 := cell_regrown y0
              have Fy1 := cell_regrown y1
              have Fa0 := cell_regrown a0
              have Fa1 := cell_regrown a1
              have Fa2 := cell_regrown a2
              have Fa3 := cell_regrown a3
              have Fa4 := cell_regrown a4
              go_wp2
              refine wp_region_quiet_below (by kernel_rfl) (by kernel_rfl) ?_
              repeat (first | go_big_quiet_step ((first | (go_at_call 24; exact Calls.regrown_of (refDecides_any nm M _ h _ (st3.next (below_regrown w3 _ _)).rdf (by omega))) | (go_at_call 25; exact Calls.regrown_of (refPermits_any nm M _ h _ (st3.next (below_regrown w3 _ _)).rdf (by omega))))) | quiet_step ((first | (go_at_call 24; exact Calls.regrown_of (refDecides_any nm M _ h _ (st3.next (below_regrown w3 _ _)).rdf (by omega))) | (go_at_call 25; exact Calls.regrown_of (refPermits_any nm M _ h _ (st3.next (below_regrown w3 _ _)).rdf (by omega))))))
              refine wpQuiet_nil ?_
              intro _ hw'
              obtain ⟨⟨nq, osq⟩, hw''⟩ := hw'
              subst hw''
              have hq := below_regrown w3 nq osq
              clear Fy0 Fy1 Fa0 Fa1 Fa2 Fa3 Fa4 y0 y1 a0 a1 a2 a3 a4
              have st4 := st3.next hq
              generalize grow (redrawn w3 nq) osq = w4 at *
              clear hq
              go_wp2
              exact ⟨⟨k + 1, by go_num, by omega, st4⟩, by simp only [intOf]; omega⟩
            · have hI2 : ¬ (k : Int) < 30 := by omega
              obtain ⟨x0, x1⟩ := st.own
              obtain ⟨y0, y1⟩ := st.its
              go_wp2_with fail
              refine (rulesSame_any M _ _ _ st.rd st.rdf (by omega)).mono ?_
              rintro e w1 ⟨rfl, hq⟩
              have st1 := st.next hq
              go_wp2_with fail
              refine (lawAwake10_any _).mono ?_
              rintro e w2 ⟨rfl, hq2⟩
              go_wp2
              go_ret
              exact ⟨rfl, (st1.next hq2).bel⟩
          · have hI : ¬ (k : Int) < (A.length : Int) := by omega
            obtain ⟨x0, x1⟩ := st.own
            obtain ⟨y0, y1⟩ := st.its
            go_wp2_with fail
            refine (rulesSame_any M _ _ _ st.rd st.rdf (by omega)).mono ?_
            rintro e w1 ⟨rfl, hq⟩
            have st1 := st.next hq
            go_wp2_with fail
            refine (lawAwake10_any _).mono ?_
            rintro e w2 ⟨rfl, hq2⟩
            go_wp2
            go_ret
            exact ⟨rfl, (st1.next hq2).bel⟩
      · have hE := Lib.hid hE'
        have hne : (filtE M != 0) = true := by simp [hE']
        have Hc1 := Lib.hid hc1
        clear hc1 hE'
        obtain ⟨x0, x1⟩ := st.own
        obtain ⟨y0, y1⟩ := st.its
        go_wp2_with fail
        refine Hc1.out.mono ?_
        rintro e w1 ⟨rfl, hq⟩
        clear x0 x1 y0 y1
        have st1 := st.next hq
        have hc2 := filtCheck_any nm M _ w1 st1.rd
        have Hc2 := Lib.hid hc2
        clear hc2
        obtain ⟨x0, x1⟩ := st1.own
        go_wp2_with fail
        refine Hc2.out.mono ?_
        rintro e w2 ⟨rfl, hq2⟩
        clear x0 x1
        have st2 := st1.next hq2
        clear Hc1 Hc2 hq hq2 st st1
        go_wp2
        go_loopw [9, 10, 11, 12, 13] (fun i _ _ _ _ wr => ∃ k : Nat, i = .int .i64 k ∧ k ≤ 30 ∧ FDst nm M A2 c0 A3 c3 r w g wr) (fun i _ _ _ _ _ => 30 - (intOf i).toNat)
        case atStart => exact ⟨0, rfl, by omega, st2⟩
        case round =>
          obtain ⟨k, rfl, hk30, st⟩ := hrel
          by_cases hlt : k < A.length
          · have hI : (k : Int) < (A.length : Int) := by omega
            by_cases hl2 : k < 30
            · have hI2 : (k : Int) < 30 := by omega
              obtain ⟨h, hk⟩ : ∃ h, A[k]? = some h := ⟨_, List.getElem?_eq_getElem hlt⟩
              obtain ⟨b1, o1, c1', hv1, _, hbl, hask⟩ := HA.out.posAt (by omega)
              injection hv1 with hv1a _ hv1c
              subst hv1a hv1c
              have HC := Lib.hid hask
              clear hask
              obtain ⟨x0, x1⟩ := st.own
              have a0 : wr.cell? ⟨b1, o1 + k * 5, none⟩ = some (.int .u32 h.src) := ask_cell (i := 0) st.bel hbl HC.out hk rfl
              have a1 : wr.cell? ⟨b1, o1 + k * 5 + 1, none⟩ = some (.int .u32 h.dst) := ask_cell (i := 1) st.bel hbl HC.out hk rfl
              have a2 : wr.cell? ⟨b1, o1 + k * 5 + 2, none⟩ = some (.int .u8 h.proto) := ask_cell (i := 2) st.bel hbl HC.out hk rfl
              have a3 : wr.cell? ⟨b1, o1 + k * 5 + 3, none⟩ = some (.int .u16 h.sp) := ask_cell (i := 3) st.bel hbl HC.out hk rfl
              have a4 : wr.cell? ⟨b1, o1 + k * 5 + 4, none⟩ = some (.int .u16 h.dp) := ask_cell (i := 4) st.bel hbl HC.out hk rfl
              have Fx0 := cell_regrown x0
              have Fx1 := cell_regrown x1
              have Fa0 := cell_regrown a0
              have Fa1 := cell_regrown a1
              have Fa2 := cell_regrown a2
              have Fa3 := cell_regrown a3
              have Fa4 := cell_regrown a4
              go_wp2_with fail
              refine wp_region_quiet_below (by kernel_rfl) (by kernel_rfl) ?_
              repeat (first | go_big_quiet_step ((first | (go_at_call 20; exact Calls.regrown_of (decides_no nm M _ h _ (st.next (below_regrown wr _ _)).rd hE.out)))) | quiet_step ((first | (go_at_call 20; exact Calls.regrown_of (decides_no nm M _ h _ (st.next (below_regrown wr _ _)).rd hE.out)))))
              refine wpQuiet_nil ?_
              intro _ hw'
              obtain ⟨⟨nq, osq⟩, hw''⟩ := hw'
              subst hw''
              have hq := below_regrown wr nq osq
              clear Fx0 Fx1 Fa0 Fa1 Fa2 Fa3 Fa4 x0 x1 a0 a1 a2 a3 a4
              have st1 := st.next hq
              generalize grow (redrawn wr nq) osq = w1 at *
              clear hq
              obtain ⟨x0, x1⟩ := st1.own
              have a0 : w1.cell? ⟨b1, o1 + k * 5, none⟩ = some (.int .u32 h.src) := ask_cell (i := 0) st1.bel hbl HC.out hk rfl
              have a1 : w1.cell? ⟨b1, o1 + k * 5 + 1, none⟩ = some (.int .u32 h.dst) := ask_cell (i := 1) st1.bel hbl HC.out hk rfl
              have a2 : w1.cell? ⟨b1, o1 + k * 5 + 2, none⟩ = some (.int .u8 h.proto) := ask_cell (i := 2) st1.bel hbl HC.out hk rfl
              have a3 : w1.cell? ⟨b1, o1 + k * 5 + 3, none⟩ = some (.int .u16 h.sp) := ask_cell (i := 3) st1.bel hbl HC.out hk rfl
              have a4 : w1.cell? ⟨b1, o1 + k * 5 + 4, none⟩ = some (.int .u16 h.dp) := ask_cell (i := 4) st1.bel hbl HC.out hk rfl
              have Fx0 := cell_regrown x0
              have Fx1 := cell_regrown x1
              have Fa0 := cell_regrown a0
              have Fa1 := cell_regrown a1
              have Fa2 := cell_regrown a2
              have Fa3 := cell_regrown a3
              have Fa4 := cell_regrown a4
              go_wp2
              refine wp_region_quiet_below (by kernel_rfl) (by kernel_rfl) ?_
              repeat (first | go_big_quiet_step ((first | (go_at_call 21; exact Calls.regrown_of (permits_no nm M _ h _ (st1.next (below_regrown w1 _ _)).rd hE.out)))) | quiet_step ((first | (go_at_call 21; exact Calls.regrown_of (permits_no nm M _ h _ (st1.next (below_regrown w1 _ _)).rd hE.out)))))
              refine wpQuiet_nil ?_
              intro _ hw'
              obtain ⟨⟨nq, osq⟩, hw''⟩ := hw'
              subst hw''
              have hq := below_regrown w1 nq osq
              clear Fx0 Fx1 Fa0 Fa1 Fa2 Fa3 Fa4 x0 x1 a0 a1 a2 a3 a4
              have st2 := st1.next hq
              generalize grow (redrawn w1 nq) osq = w2 at *
              clear hq
              have hfr : (fitsB r h != fitsB r h) = false := by simp
              obtain ⟨z0, z1, z2, z3, z4, z5, z6, z7, z8, z9⟩ := st2.rule
              have a0 : w2.cell? ⟨b1, o1 + k * 5, none⟩ = some (.int .u32 h.src) := ask_cell (i := 0) st2.bel hbl HC.out hk rfl
              have a1 : w2.cell? ⟨b1, o1 + k * 5 + 1, none⟩ = some (.int .u32 h.dst) := ask_cell (i := 1) st2.bel hbl HC.out hk rfl
              have a2 : w2.cell? ⟨b1, o1 + k * 5 + 2, none⟩ = some (.int .u8 h.proto) := ask_cell (i := 2) st2.bel hbl HC.out hk rfl
              have a3 : w2.cell? ⟨b1, o1 + k * 5 + 3, none⟩ = some (.int .u16 h.sp) := ask_cell (i := 3) st2.bel hbl HC.out hk rfl
              have a4 : w2.cell? ⟨b1, o1 + k * 5 + 4, none⟩ = some (.int .u16 h.dp) := ask_cell (i := 4) st2.bel hbl HC.out hk rfl
              have Fz0 := cell_regrown z0
              have Fz1 := cell_regrown z1
              have Fz2 := cell_regrown z2
              have Fz3 := cell_regrown z3
              have Fz4 := cell_regrown z4
              have Fz5 := cell_regrown z5
              have Fz6 := cell_regrown z6
              have Fz7 := cell_regrown z7
              have Fz8 := cell_regrown z8
              have Fz9 := cell_regrown z9
              have Fa0 := cell_regrown a0
              have Fa1 := cell_regrown a1
              have Fa2 := cell_regrown a2
              have Fa3 := cell_regrown a3
              have Fa4 := cell_regrown a4
              go_wp2
              refine wp_region_quiet_below (by kernel_rfl) (by kernel_rfl) ?_
              repeat (first | go_big_quiet_step ((first | (go_at_call 22; exact Calls.regrown_of (fits_any r h _)) | (go_at_call 23; exact Calls.regrown_of (refFits_any r h _)))) | quiet_step ((first | (go_at_call 22; exact Calls.regrown_of (fits_any r h _)) | (go_at_call 23; exact Calls.regrown_of (refFits_any r h _)))))
              refine wpQuiet_nil ?_
              intro _ hw'
              obtain ⟨⟨nq, osq⟩, hw''⟩ := hw'
              subst hw''
              have hq := below_regrown w2 nq osq
              clear Fz0 Fz1 Fz2 Fz3 Fz4 Fz5 Fz6 Fz7 Fz8 Fz9 Fa0 Fa1 Fa2 Fa3 Fa4 z0 z1 z2 z3 z4 z5 z6 z7 z8 z9 a0 a1 a2 a3 a4
              have st3 := st2.next hq
              generalize grow (redrawn w2 nq) osq = w3 at *
              clear hq
              go_wp2
              exact ⟨⟨k + 1, by go_num, by omega, st3⟩, by simp only [intOf]; omega⟩
            · have hI2 : ¬ (k : Int) < 30 := by omega
              obtain ⟨x0, x1⟩ := st.own
              obtain ⟨y0, y1⟩ := st.its
              go_wp2_with fail
              refine (rulesSame_any M _ _ _ st.rd st.rdf (by omega)).mono ?_
              rintro e w1 ⟨rfl, hq⟩
              have st1 := st.next hq
              go_wp2_with fail
              refine (lawAwake10_any _).mono ?_
              rintro e w2 ⟨rfl, hq2⟩
              go_wp2
              go_ret
              exact ⟨rfl, (st1.next hq2).bel⟩
          · have hI : ¬ (k : Int) < (A.length : Int) := by omega
            obtain ⟨x0, x1⟩ := st.own
            obtain ⟨y0, y1⟩ := st.its
            go_wp2_with fail
            refine (rulesSame_any M _ _ _ st.rd st.rdf (by omega)).mono ?_
            rintro e w1 ⟨rfl, hq⟩
            have st1 := st.next hq
            go_wp2_with fail
            refine (lawAwake10_any _).mono ?_
            rintro e w2 ⟨rfl, hq2⟩
            go_wp2
            go_ret
            exact ⟨rfl, (st1.next hq2).bel⟩

end Go.Proofs.Ytpljnogmfeenkaa
