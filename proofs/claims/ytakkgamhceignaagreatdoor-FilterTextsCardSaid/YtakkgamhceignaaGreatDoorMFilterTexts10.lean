/-
  Joined texts: Ft3, At1, At2, Fx1.
-/
import Derived.Test.YtakkgamhceignaaGreatDoorMFilterTexts9
import Derived.Deep.RegionHeld3
import Derived.Deep.DeepCutAuto
import Derived.Test.YtakkgamhceignaaGreatDoorMFilterTexts7
import Derived.Lib.ConvBytes
import Derived.Test.YtakkgamhceignaaGreatDoorMFilterTexts8
/-
  The walk of filter.Parse (written by wip/gen/genft3.py).
-/
namespace Go.Proofs.YtakkgamhceignaaGreatDoor
open Go Go.RowKit Go.Lib Go.Sort

theorem rset0 {w : World} {g : Nat} {v0 v1 v2 v3 v4 v5 v6 v7 v8 v9 u : Value} {t : TypeId} (h : w.heap[g]? = some (.cells #[v0, v1, v2, v3, v4, v5, v6, v7, v8, v9] t (0, 0))) : (w.setCell ⟨g, 0, none⟩ u).heap[g]? = some (.cells #[u, v1, v2, v3, v4, v5, v6, v7, v8, v9] t (0, 0)) := set_at h
theorem rset1 {w : World} {g : Nat} {v0 v1 v2 v3 v4 v5 v6 v7 v8 v9 u : Value} {t : TypeId} (h : w.heap[g]? = some (.cells #[v0, v1, v2, v3, v4, v5, v6, v7, v8, v9] t (0, 0))) : (w.setCell ⟨g, 1, none⟩ u).heap[g]? = some (.cells #[v0, u, v2, v3, v4, v5, v6, v7, v8, v9] t (0, 0)) := set_at h
theorem rset2 {w : World} {g : Nat} {v0 v1 v2 v3 v4 v5 v6 v7 v8 v9 u : Value} {t : TypeId} (h : w.heap[g]? = some (.cells #[v0, v1, v2, v3, v4, v5, v6, v7, v8, v9] t (0, 0))) : (w.setCell ⟨g, 2, none⟩ u).heap[g]? = some (.cells #[v0, v1, u, v3, v4, v5, v6, v7, v8, v9] t (0, 0)) := set_at h
theorem rset3 {w : World} {g : Nat} {v0 v1 v2 v3 v4 v5 v6 v7 v8 v9 u : Value} {t : TypeId} (h : w.heap[g]? = some (.cells #[v0, v1, v2, v3, v4, v5, v6, v7, v8, v9] t (0, 0))) : (w.setCell ⟨g, 3, none⟩ u).heap[g]? = some (.cells #[v0, v1, v2, u, v4, v5, v6, v7, v8, v9] t (0, 0)) := set_at h
theorem rset4 {w : World} {g : Nat} {v0 v1 v2 v3 v4 v5 v6 v7 v8 v9 u : Value} {t : TypeId} (h : w.heap[g]? = some (.cells #[v0, v1, v2, v3, v4, v5, v6, v7, v8, v9] t (0, 0))) : (w.setCell ⟨g, 4, none⟩ u).heap[g]? = some (.cells #[v0, v1, v2, v3, u, v5, v6, v7, v8, v9] t (0, 0)) := set_at h
theorem rset5 {w : World} {g : Nat} {v0 v1 v2 v3 v4 v5 v6 v7 v8 v9 u : Value} {t : TypeId} (h : w.heap[g]? = some (.cells #[v0, v1, v2, v3, v4, v5, v6, v7, v8, v9] t (0, 0))) : (w.setCell ⟨g, 5, none⟩ u).heap[g]? = some (.cells #[v0, v1, v2, v3, v4, u, v6, v7, v8, v9] t (0, 0)) := set_at h
theorem rset6 {w : World} {g : Nat} {v0 v1 v2 v3 v4 v5 v6 v7 v8 v9 u : Value} {t : TypeId} (h : w.heap[g]? = some (.cells #[v0, v1, v2, v3, v4, v5, v6, v7, v8, v9] t (0, 0))) : (w.setCell ⟨g, 6, none⟩ u).heap[g]? = some (.cells #[v0, v1, v2, v3, v4, v5, u, v7, v8, v9] t (0, 0)) := set_at h
theorem rset7 {w : World} {g : Nat} {v0 v1 v2 v3 v4 v5 v6 v7 v8 v9 u : Value} {t : TypeId} (h : w.heap[g]? = some (.cells #[v0, v1, v2, v3, v4, v5, v6, v7, v8, v9] t (0, 0))) : (w.setCell ⟨g, 7, none⟩ u).heap[g]? = some (.cells #[v0, v1, v2, v3, v4, v5, v6, u, v8, v9] t (0, 0)) := set_at h
theorem rset8 {w : World} {g : Nat} {v0 v1 v2 v3 v4 v5 v6 v7 v8 v9 u : Value} {t : TypeId} (h : w.heap[g]? = some (.cells #[v0, v1, v2, v3, v4, v5, v6, v7, v8, v9] t (0, 0))) : (w.setCell ⟨g, 8, none⟩ u).heap[g]? = some (.cells #[v0, v1, v2, v3, v4, v5, v6, v7, u, v9] t (0, 0)) := set_at h
theorem rset9 {w : World} {g : Nat} {v0 v1 v2 v3 v4 v5 v6 v7 v8 v9 u : Value} {t : TypeId} (h : w.heap[g]? = some (.cells #[v0, v1, v2, v3, v4, v5, v6, v7, v8, v9] t (0, 0))) : (w.setCell ⟨g, 9, none⟩ u).heap[g]? = some (.cells #[v0, v1, v2, v3, v4, v5, v6, v7, v8, u] t (0, 0)) := set_at h
theorem blk10 {w : World} {g : Nat} {v0 v1 v2 v3 v4 v5 v6 v7 v8 v9 : Value} {t : TypeId} (h : w.heap[g]? = some (.cells #[v0, v1, v2, v3, v4, v5, v6, v7, v8, v9] t (0, 0))) : w.cell? ⟨g, 0, none⟩ = some v0 ∧ w.cell? ⟨g, 1, none⟩ = some v1 ∧ w.cell? ⟨g, 2, none⟩ = some v2 ∧ w.cell? ⟨g, 3, none⟩ = some v3 ∧ w.cell? ⟨g, 4, none⟩ = some v4 ∧ w.cell? ⟨g, 5, none⟩ = some v5 ∧ w.cell? ⟨g, 6, none⟩ = some v6 ∧ w.cell? ⟨g, 7, none⟩ = some v7 ∧ w.cell? ⟨g, 8, none⟩ = some v8 ∧ w.cell? ⟨g, 9, none⟩ = some v9 :=
  ⟨cell_of_row w g 0 _ t (0, 0) h, cell_of_row w g 1 _ t (0, 0) h, cell_of_row w g 2 _ t (0, 0) h, cell_of_row w g 3 _ t (0, 0) h, cell_of_row w g 4 _ t (0, 0) h, cell_of_row w g 5 _ t (0, 0) h, cell_of_row w g 6 _ t (0, 0) h, cell_of_row w g 7 _ t (0, 0) h, cell_of_row w g 8 _ t (0, 0) h, cell_of_row w g 9 _ t (0, 0) h⟩
/-- The rule that the program reads of the words. -/
def candF (p0 p2 p3 p4 p5 : List UInt8) (pr : Int) (hpr : -9223372036854775808 ≤ pr ∧ pr ≤ 9223372036854775807) : RuleV := ⟨permR p0, pr, ppA p2, ppN p2, ppA p3, ppN p3, (endsR p4).1, (endsR p4).2, (endsR p5).1, (endsR p5).2, hpr, ppA_lt p2, ppA_lt p3, ⟨(endsR_lt p4).1, by have := endsR_lt p4; omega⟩, ⟨(endsR_lt p4).2.2.1, by have := endsR_lt p4; omega⟩, ⟨(endsR_lt p5).1, by have := endsR_lt p5; omega⟩, ⟨(endsR_lt p5).2.2.1, by have := endsR_lt p5; omega⟩⟩
theorem candF_O {l p0 p1 p2 p3 p4 p5 : List UInt8} {pr : Int} {hpr : -9223372036854775808 ≤ pr ∧ pr ≤ 9223372036854775807} (hp : pieces 32 l = [p0, p1, p2, p3, p4, p5]) (h1 : protoR p1 = some pr) :
    frO l = if ppE p2 = 0 ∧ ppE p3 = 0 ∧ mayB (candF p0 p2 p3 p4 p5 pr hpr) = true ∧ (candF p0 p2 p3 p4 p5 pr hpr).text = l then some (candF p0 p2 p3 p4 p5 pr hpr) else none :=
  frO_cand hp ⟨rfl, rfl, rfl, rfl, rfl⟩ h1 rfl rfl
def zeroRule : RuleV := default
theorem results_r {fn : Func} {tmps : Array Value} {w : World} {g : Nat} {r : RuleV} {e : Value} {t1 t3 : Nat} (hf : fn.results = #[.cell t1 29, .tmp t3]) (h1 : tmps.getD t1 undef = .pointer (some ⟨g, 0, none⟩)) (h3 : tmps.getD t3 undef = e)
    (k1 : w.heap[g]? = some (ruleObj r)) :
    (results fn tmps).run Tryz.prog w = .ok (.tuple #[r.agg, e]) w := by
  obtain ⟨c0, c1, c2, c3, c4, c5, c6, c7, c8, c9⟩ := rule_blk (r := r) k1
  have h1' : tmps[t1]?.getD undef = .pointer (some ⟨g, 0, none⟩) := by simpa using h1
  have h3' : tmps[t3]?.getD undef = e := by simpa using h3
  simp [results, hf, h1', h3', go_sem, c0, c1, c2, c3, c4, c5, c6, c7, c8, c9, RuleV.agg, RuleV.enc]
theorem six_list {L : List ByteArray} (h : L.length = 6) : ∃ a b c d e f, L = [a, b, c, d, e, f] := six h
theorem below_al {W V : World} {o : Obj} (h : Below W.heap.size W V) : Below W.heap.size W (V.alloc o) := h.alloc h.size o
theorem cell_al {V : World} {o : Obj} {a : Addr} {v : Value} (c : V.cell? a = some v) : (V.alloc o).cell? a = some v := cell_kept (below1 V o) c
theorem cell_dr {V : World} {a : Addr} {v : Value} (c : V.cell? a = some v) : V.drew.cell? a = some v := c
theorem keep3 {W V : World} {a b c : Addr} {x y z : Value} (h0 : W.cell? a = some x) (h1 : W.cell? b = some y) (h2 : W.cell? c = some z) (h : Below W.heap.size W V) : V.cell? a = some x ∧ V.cell? b = some y ∧ V.cell? c = some z ∧ Below W.heap.size W V := ⟨cell_kept h h0, cell_kept h h1, cell_kept h h2, h⟩
theorem st10 {W V : World} {g : Nat} {u0 u1 u2 u3 u4 u5 u6 u7 u8 u9 : Value} (h : Below W.heap.size W V) (hg : W.heap.size ≤ g) : Below W.heap.size W ((((((((((V.setCell ⟨g, 0, none⟩ u0).setCell ⟨g, 1, none⟩ u1).setCell ⟨g, 2, none⟩ u2).setCell ⟨g, 3, none⟩ u3).setCell ⟨g, 4, none⟩ u4).setCell ⟨g, 5, none⟩ u5).setCell ⟨g, 6, none⟩ u6).setCell ⟨g, 7, none⟩ u7).setCell ⟨g, 8, none⟩ u8).setCell ⟨g, 9, none⟩ u9) := ((((((((((h.setCell (p := ⟨g, 0, none⟩) hg u0).setCell (p := ⟨g, 1, none⟩) hg u1).setCell (p := ⟨g, 2, none⟩) hg u2).setCell (p := ⟨g, 3, none⟩) hg u3).setCell (p := ⟨g, 4, none⟩) hg u4).setCell (p := ⟨g, 5, none⟩) hg u5).setCell (p := ⟨g, 6, none⟩) hg u6).setCell (p := ⟨g, 7, none⟩) hg u7).setCell (p := ⟨g, 8, none⟩) hg u8).setCell (p := ⟨g, 9, none⟩) hg u9)
theorem st10b {V : World} {g : Nat} {u0 u1 u2 u3 u4 u5 u6 u7 u8 u9 v0 v1 v2 v3 v4 v5 v6 v7 v8 v9 : Value} {t : TypeId} (h : V.heap[g]? = some (.cells #[v0, v1, v2, v3, v4, v5, v6, v7, v8, v9] t (0, 0))) : ((((((((((V.setCell ⟨g, 0, none⟩ u0).setCell ⟨g, 1, none⟩ u1).setCell ⟨g, 2, none⟩ u2).setCell ⟨g, 3, none⟩ u3).setCell ⟨g, 4, none⟩ u4).setCell ⟨g, 5, none⟩ u5).setCell ⟨g, 6, none⟩ u6).setCell ⟨g, 7, none⟩ u7).setCell ⟨g, 8, none⟩ u8).setCell ⟨g, 9, none⟩ u9).heap[g]? = some (.cells #[u0, u1, u2, u3, u4, u5, u6, u7, u8, u9] t (0, 0)) := (rset9 (rset8 (rset7 (rset6 (rset5 (rset4 (rset3 (rset2 (rset1 (rset0 h))))))))))
theorem fin1 {W V : World} {o : Obj} (h : Below W.heap.size W V) : ∃ g, Value.pointer (some ⟨V.heap.size, 0, none⟩) = .pointer (some ⟨g, 0, none⟩) ∧ W.heap.size ≤ g ∧ (V.alloc o).heap[g]? = some o ∧ Below W.heap.size W (V.alloc o) := ⟨_, rfl, h.size, heap_alloc_new _ _, below_al h⟩
theorem fin2 {W V : World} {g0 : Nat} {u0 u1 u2 u3 u4 u5 u6 u7 u8 u9 : Value} {t : TypeId} (h : Below W.heap.size W V) (hq : V.heap[g0]? = some (.cells #[.bool false, .int .i64 0, .int .u32 0, .int .i64 0, .int .u32 0, .int .i64 0, .int .u32 0, .int .u32 0, .int .u32 0, .int .u32 0] t (0, 0))) (hg : W.heap.size ≤ g0) : ∃ g, Value.pointer (some ⟨g0, 0, none⟩) = .pointer (some ⟨g, 0, none⟩) ∧ W.heap.size ≤ g ∧ ((((((((((V.setCell ⟨g0, 0, none⟩ u0).setCell ⟨g0, 1, none⟩ u1).setCell ⟨g0, 2, none⟩ u2).setCell ⟨g0, 3, none⟩ u3).setCell ⟨g0, 4, none⟩ u4).setCell ⟨g0, 5, none⟩ u5).setCell ⟨g0, 6, none⟩ u6).setCell ⟨g0, 7, none⟩ u7).setCell ⟨g0, 8, none⟩ u8).setCell ⟨g0, 9, none⟩ u9).heap[g]? = some (.cells #[u0, u1, u2, u3, u4, u5, u6, u7, u8, u9] t (0, 0)) ∧ Below W.heap.size W ((((((((((V.setCell ⟨g0, 0, none⟩ u0).setCell ⟨g0, 1, none⟩ u1).setCell ⟨g0, 2, none⟩ u2).setCell ⟨g0, 3, none⟩ u3).setCell ⟨g0, 4, none⟩ u4).setCell ⟨g0, 5, none⟩ u5).setCell ⟨g0, 6, none⟩ u6).setCell ⟨g0, 7, none⟩ u7).setCell ⟨g0, 8, none⟩ u8).setCell ⟨g0, 9, none⟩ u9) := ⟨_, rfl, hg, st10b hq, st10 h hg⟩
theorem below_of {w V : World} (h : Below w.heap.size w V) : Below w.heap.size w V := h
set_option maxRecDepth 100000 in
set_option maxHeartbeats 4000000 in
theorem ftParse_not (s : ByteArray) (L : List ByteArray) (w : World) (hE : Env w) (hlim : s.size < 4294967281) (hP : (pieces 32 s.data.toList).length = L.length) (hS : Lib.splitB ⟨#[32]⟩ 0 (Lib.countB s ⟨#[32]⟩) s = L) (hN : Lib.countB s ⟨#[32]⟩ + 1 = L.length) (h6 : L.length ≠ 6) :
    Calls Tryz.prog 9 #[.string s] w fun e w' => e = .returned (.tuple #[(frV s.data.toList).agg, .int .i64 (frE s.data.toList)]) ∧ Below w.heap.size w w' := by
  have hkz := heap_alloc_new w (ruleObj default)
  have hb0 := below1 w (ruleObj default)
  have hE0 := hE.below hb0
  obtain ⟨m, hm⟩ := hE0.len
  have hSp := Tryz.strings_Split s ⟨#[32]⟩ m (w.alloc (ruleObj default)) (by omega) hm (by decide)
  rw [hS, hN] at hSp
  have HSp := Lib.hid hSp
  have hz := Lib.hid (fr_none (frO_len (l := s.data.toList) (by rw [hP]; exact h6)))
  have hd : ((L.length : Int) != 6) = true := by simp; omega
  clear hSp hS hN hm hP
  go_enter Tryz.func9, Tryz.ntmps9
  go_wp2_with fail
  refine HSp.out.mono ?_
  rintro e w1 ⟨rfl, rfl⟩
  have hk1 := (Below.heap_alloc (w.alloc (ruleObj default)) (.cells (L.map Value.string).toArray 9) _ (lt_of_block hkz)).trans hkz
  have hb1 := hb0.alloc hb0.size (.cells (L.map Value.string).toArray 9)
  clear HSp hE0 hkz hb0
  generalize (w.alloc (ruleObj default)).alloc (.cells (L.map Value.string).toArray 9) = W at *
  obtain ⟨c0, c1, c2, c3, c4, c5, c6, c7, c8, c9⟩ := blk10 hk1
  have f0 := frozen_row hk1 0
  have f1 := frozen_row hk1 1
  have f2 := frozen_row hk1 2
  have f3 := frozen_row hk1 3
  have f4 := frozen_row hk1 4
  have f5 := frozen_row hk1 5
  have f6 := frozen_row hk1 6
  have f7 := frozen_row hk1 7
  have f8 := frozen_row hk1 8
  have f9 := frozen_row hk1 9
  have HK := Lib.hid hk1
  clear hk1
  go_wp2
  exact bodyPost_ret (results_r (t1 := 2) (t3 := 3) (g := w.heap.size) (r := default) Tryz.results9 rfl rfl (rset9 (rset8 (rset7 (rset6 (rset5 (rset4 (rset3 (rset2 (rset1 (rset0 HK.out))))))))))) rfl ⟨by rw [hz.out.1, hz.out.2]; rfl, ((((((((((hb1.setCell (Nat.le_refl _) _).setCell (Nat.le_refl _) _).setCell (Nat.le_refl _) _).setCell (Nat.le_refl _) _).setCell (Nat.le_refl _) _).setCell (Nat.le_refl _) _).setCell (Nat.le_refl _) _).setCell (Nat.le_refl _) _).setCell (Nat.le_refl _) _).setCell (Nat.le_refl _) _)⟩
set_option maxRecDepth 100000 in
set_option maxHeartbeats 20000000 in
theorem ftParse_six (s : ByteArray) (x0 x1 x2 x3 x4 x5 : ByteArray) (w : World) (hE : Env w) (hlim : s.size < 4294967281) (hP : pieces 32 s.data.toList = [x0.data.toList, x1.data.toList, x2.data.toList, x3.data.toList, x4.data.toList, x5.data.toList]) (hS : Lib.splitB ⟨#[32]⟩ 0 (Lib.countB s ⟨#[32]⟩) s = [x0, x1, x2, x3, x4, x5]) (hN : Lib.countB s ⟨#[32]⟩ + 1 = 6) :
    Calls Tryz.prog 9 #[.string s] w fun e w' => e = .returned (.tuple #[(frV s.data.toList).agg, .int .i64 (frE s.data.toList)]) ∧ Below w.heap.size w w' := by
  have hkz := heap_alloc_new w (ruleObj default)
  have hb0 := below1 w (ruleObj default)
  have hE0 := hE.below hb0
  obtain ⟨m, hm⟩ := hE0.len
  have hSp := Tryz.strings_Split s ⟨#[32]⟩ m (w.alloc (ruleObj default)) (by omega) hm (by decide)
  rw [hS, hN] at hSp
  have HSp := Lib.hid hSp
  clear hSp hS hN hm
  have hl : ∀ x ∈ [x0, x1, x2, x3, x4, x5], x.size < 4294967281 := by
    intro x hx
    have h1 : x.data.toList ∈ pieces 32 s.data.toList := by
      rw [hP]
      simp only [List.mem_cons, List.not_mem_nil, or_false] at hx ⊢
      rcases hx with rfl | rfl | rfl | rfl | rfl | rfl <;> simp
    have h2 := pieces_len 32 _ _ h1
    have e1 : s.data.toList.length = s.size := Array.length_toList
    have e2 : x.data.toList.length = x.size := Array.length_toList
    omega
  have l1 := hl x1 (by simp)
  have l2 := hl x2 (by simp)
  have l3 := hl x3 (by simp)
  have l4 := hl x4 (by simp)
  have l5 := hl x5 (by simp)
  clear hl
  have HP := Lib.hid hP
  clear hP
  go_enter Tryz.func9, Tryz.ntmps9
  go_wp2_with fail
  refine HSp.out.mono ?_
  rintro e w1 ⟨rfl, rfl⟩
  have hk1 := (Below.heap_alloc (w.alloc (ruleObj default)) (.cells ([x0, x1, x2, x3, x4, x5].map Value.string).toArray 9) _ (lt_of_block hkz)).trans hkz
  have hkL := heap_alloc_new (w.alloc (ruleObj default)) (.cells ([x0, x1, x2, x3, x4, x5].map Value.string).toArray 9)
  have hb1 := hb0.alloc hb0.size (.cells ([x0, x1, x2, x3, x4, x5].map Value.string).toArray 9)
  have hE1 := hE.below hb1
  have hgL : w.heap.size ≠ (w.alloc (ruleObj default)).heap.size := by simp
  clear HSp hE0 hkz hb0
  generalize (w.alloc (ruleObj default)).heap.size = gL at *
  generalize (w.alloc (ruleObj default)).alloc (.cells ([x0, x1, x2, x3, x4, x5].map Value.string).toArray 9) = W at *
  have s0 := cells_str (k := 0) hkL rfl
  have s1 := cells_str (k := 1) hkL rfl
  have s2 := cells_str (k := 2) hkL rfl
  have s3 := cells_str (k := 3) hkL rfl
  have s4 := cells_str (k := 4) hkL rfl
  have s5 := cells_str (k := 5) hkL rfl
  have HK1 := Lib.hid hk1
  have HKL := Lib.hid hkL
  clear hk1 hkL
  have sz0 : w.heap.size < W.heap.size := lt_of_block HK1.out
  have hpm : (x0.toList == [112, 101, 114, 109, 105, 116]) = permR x0.data.toList := by rw [list_of, Bool.eq_iff_iff]; simp only [permR, permitW, beq_iff_eq]; exact ⟨fun h => decide_eq_true h, fun h => of_decide_eq_true h⟩
  have K4 := Lib.hid (show ∀ V : World, Below W.heap.size W V → Calls Tryz.prog 40 #[.string x4] V fun e V' => e = .returned (.agg #[.int .u32 (endsR x4.data.toList).1, .int .u32 (endsR x4.data.toList).2]) ∧ V'.cell? ⟨gL, 0, none⟩ = some (.string x0) ∧ V'.cell? ⟨gL, 4, none⟩ = some (.string x4) ∧ V'.cell? ⟨gL, 5, none⟩ = some (.string x5) ∧ Below W.heap.size W V' ∧ Below V.heap.size V V' from fun V h => (ends_any x4 l4 V (hE1.below h)).mono fun e V' ⟨he, hb⟩ => ⟨he, cell_kept (below_of (below_call h hb)) s0, cell_kept (below_of (below_call h hb)) s4, cell_kept (below_of (below_call h hb)) s5, below_call h hb, hb⟩)
  have K5 := Lib.hid (show ∀ V : World, Below W.heap.size W V → Calls Tryz.prog 40 #[.string x5] V fun e V' => e = .returned (.agg #[.int .u32 (endsR x5.data.toList).1, .int .u32 (endsR x5.data.toList).2]) ∧ V'.cell? ⟨gL, 0, none⟩ = some (.string x0) ∧ V'.cell? ⟨gL, 4, none⟩ = some (.string x4) ∧ V'.cell? ⟨gL, 5, none⟩ = some (.string x5) ∧ Below W.heap.size W V' ∧ Below V.heap.size V V' from fun V h => (ends_any x5 l5 V (hE1.below h)).mono fun e V' ⟨he, hb⟩ => ⟨he, cell_kept (below_of (below_call h hb)) s0, cell_kept (below_of (below_call h hb)) s4, cell_kept (below_of (below_call h hb)) s5, below_call h hb, hb⟩)
  go_upto_region 4 with fail
  go_cut [5] (fun sr wx => ∃ g : Nat, sr = .pointer (some ⟨g, 0, none⟩) ∧ W.heap.size ≤ g ∧ wx.heap[g]? = some (.cells #[.bool (permR x0.data.toList), .int .i64 (-1), .int .u32 0, .int .i64 0, .int .u32 0, .int .i64 0, .int .u32 (endsR x4.data.toList).1, .int .u32 (endsR x4.data.toList).2, .int .u32 (endsR x5.data.toList).1, .int .u32 (endsR x5.data.toList).2] 29 (0, 0)) ∧ Below W.heap.size W wx)
  case first =>
    have hbr := Below.refl W.heap.size W
    clear s1 s2 s3 HK1 HKL HP l1 l2 l3 l4 l5 hb1 hE1
    go_region_held3 (fun V => V.cell? ⟨gL, 0, none⟩ = some (.string x0) ∧ V.cell? ⟨gL, 4, none⟩ = some (.string x4) ∧ V.cell? ⟨gL, 5, none⟩ = some (.string x5) ∧ Below W.heap.size W V) ((refine keep3 s0 s4 s5 ?_; first | first | (with_reducible assumption) | (with_reducible exact below_drew (by with_reducible assumption)) | (with_reducible exact below_al (by with_reducible assumption)) | (with_reducible exact below_al (below_drew (by with_reducible assumption))) | (with_reducible exact below_drew (below_al (by with_reducible assumption))) | (with_reducible exact st10 (by first | (with_reducible assumption) | (with_reducible exact below_drew (by with_reducible assumption)) | (with_reducible exact below_al (by with_reducible assumption)) | (with_reducible exact below_al (below_drew (by with_reducible assumption))) | (with_reducible exact below_drew (below_al (by with_reducible assumption)))) (by first | exact Nat.le_refl _ | exact Below.size (by with_reducible assumption) | exact Below.size (below_drew (by with_reducible assumption))))))
      (first | (go_at_call 40; with_reducible refine (K4.out _ (by first | (with_reducible assumption) | (with_reducible exact below_drew (by with_reducible assumption)) | (with_reducible exact below_al (by with_reducible assumption)) | (with_reducible exact below_al (below_drew (by with_reducible assumption))) | (with_reducible exact below_drew (below_al (by with_reducible assumption))))).mono ?_; rintro e V' ⟨rfl, _, _, _, _, hbv⟩; (first | (have hq := blk_below hbv (heap_alloc_new _ _); obtain ⟨n0, n1, n2, n3, n4, n5, n6, n7, n8, n9⟩ := blk10 hq; have m0 := frozen_row hq 0; have m1 := frozen_row hq 1; have m2 := frozen_row hq 2; have m3 := frozen_row hq 3; have m4 := frozen_row hq 4; have m5 := frozen_row hq 5; have m6 := frozen_row hq 6; have m7 := frozen_row hq 7; have m8 := frozen_row hq 8; have m9 := frozen_row hq 9) | (have hq := blk_below hbv (heap_drew (heap_alloc_new _ _)); obtain ⟨n0, n1, n2, n3, n4, n5, n6, n7, n8, n9⟩ := blk10 hq; have m0 := frozen_row hq 0; have m1 := frozen_row hq 1; have m2 := frozen_row hq 2; have m3 := frozen_row hq 3; have m4 := frozen_row hq 4; have m5 := frozen_row hq 5; have m6 := frozen_row hq 6; have m7 := frozen_row hq 7; have m8 := frozen_row hq 8; have m9 := frozen_row hq 9) | (have hq := blk_below hbv (g := _) (o := (.cells #[.bool false, .int .i64 0, .int .u32 0, .int .i64 0, .int .u32 0, .int .i64 0, .int .u32 0, .int .u32 0, .int .u32 0, .int .u32 0] 29 (0, 0))) (by with_reducible assumption); obtain ⟨n0, n1, n2, n3, n4, n5, n6, n7, n8, n9⟩ := blk10 hq; have m0 := frozen_row hq 0; have m1 := frozen_row hq 1; have m2 := frozen_row hq 2; have m3 := frozen_row hq 3; have m4 := frozen_row hq 4; have m5 := frozen_row hq 5; have m6 := frozen_row hq 6; have m7 := frozen_row hq 7; have m8 := frozen_row hq 8; have m9 := frozen_row hq 9) | skip)) | (go_at_call 40; with_reducible refine (K5.out _ (by first | (with_reducible assumption) | (with_reducible exact below_drew (by with_reducible assumption)) | (with_reducible exact below_al (by with_reducible assumption)) | (with_reducible exact below_al (below_drew (by with_reducible assumption))) | (with_reducible exact below_drew (below_al (by with_reducible assumption))))).mono ?_; rintro e V' ⟨rfl, _, _, _, _, hbv⟩; (first | (have hq := blk_below hbv (heap_alloc_new _ _); obtain ⟨n0, n1, n2, n3, n4, n5, n6, n7, n8, n9⟩ := blk10 hq; have m0 := frozen_row hq 0; have m1 := frozen_row hq 1; have m2 := frozen_row hq 2; have m3 := frozen_row hq 3; have m4 := frozen_row hq 4; have m5 := frozen_row hq 5; have m6 := frozen_row hq 6; have m7 := frozen_row hq 7; have m8 := frozen_row hq 8; have m9 := frozen_row hq 9) | (have hq := blk_below hbv (heap_drew (heap_alloc_new _ _)); obtain ⟨n0, n1, n2, n3, n4, n5, n6, n7, n8, n9⟩ := blk10 hq; have m0 := frozen_row hq 0; have m1 := frozen_row hq 1; have m2 := frozen_row hq 2; have m3 := frozen_row hq 3; have m4 := frozen_row hq 4; have m5 := frozen_row hq 5; have m6 := frozen_row hq 6; have m7 := frozen_row hq 7; have m8 := frozen_row hq 8; have m9 := frozen_row hq 9) | (have hq := blk_below hbv (g := _) (o := (.cells #[.bool false, .int .i64 0, .int .u32 0, .int .i64 0, .int .u32 0, .int .i64 0, .int .u32 0, .int .u32 0, .int .u32 0, .int .u32 0] 29 (0, 0))) (by with_reducible assumption); obtain ⟨n0, n1, n2, n3, n4, n5, n6, n7, n8, n9⟩ := blk10 hq; have m0 := frozen_row hq 0; have m1 := frozen_row hq 1; have m2 := frozen_row hq 2; have m3 := frozen_row hq 3; have m4 := frozen_row hq 4; have m5 := frozen_row hq 5; have m6 := frozen_row hq 6; have m7 := frozen_row hq 7; have m8 := frozen_row hq 8; have m9 := frozen_row hq 9) | skip)))
    all_goals (go_wp2_with fail)
    all_goals go_meet
    · with_reducible refine fin1 ?_
      with_reducible assumption
    · with_reducible refine fin2 ?_ ?_ ?_
      · with_reducible assumption
      · with_reducible assumption
      · with_reducible refine Below.size (B := W.heap.size) ?_
        with_reducible assumption
    · with_reducible refine fin2 ?_ ?_ (Nat.le_refl _)
      · with_reducible assumption
      · with_reducible assumption
  case rest =>
    obtain ⟨gR, rfl, hgR, hkR, hbR⟩ := hcut
    have HS1 := Lib.hid s1
    have HS2 := Lib.hid s2
    have HS3 := Lib.hid s3
    clear K4 K5 s0 s1 s2 s3 s4 s5 hpm
    have s1 := cell_kept hbR HS1.out
    by_cases ha : x1.data.toList = anyW
    · have hq : (x1.toList == [97, 110, 121]) = true := by rw [list_of, ha]; rfl
      have hp1 : protoR x1.data.toList = some (-1) := by unfold protoR; rw [if_pos ha]
      have hO := candF_O (hpr := (by omega)) HP.out hp1
      have HO := Lib.hid hO
      have hEc := hE1.below hbR
      have t2 := cell_kept hbR HS2.out
      go_wp2_with fail
      refine (parsePrefix_any x2 wc hEc l2).mono ?_
      rintro e w3 ⟨rfl, hbx⟩
      have hk3 := blk_below hbx hkR
      have hb3 := hbR.trans (hbx.mono hbR.size)
      have hE3 := hE1.below hb3
      have t3 := cell_kept hb3 HS3.out
      obtain ⟨c0, c1, c2, c3, c4, c5, c6, c7, c8, c9⟩ := blk10 hk3
      have y0 := frozen_row hk3 0
      have y1 := frozen_row hk3 1
      have y2 := frozen_row hk3 2
      have y3 := frozen_row hk3 3
      have y4 := frozen_row hk3 4
      have y5 := frozen_row hk3 5
      have y6 := frozen_row hk3 6
      have y7 := frozen_row hk3 7
      have y8 := frozen_row hk3 8
      have y9 := frozen_row hk3 9
      have HK3 := Lib.hid hk3
      clear hbx t2 hEc hk3
      have hb4 := (hb3.setCell (p := ⟨gR, 2, none⟩) hgR (.int .u32 (ppA x2.data.toList))).setCell (p := ⟨gR, 3, none⟩) hgR (.int .i64 (ppN x2.data.toList))
      have hk4 := rset3 (u := .int .i64 (ppN x2.data.toList)) (rset2 (u := .int .u32 (ppA x2.data.toList)) HK3.out)
      have hE4 := hE1.below hb4
      have t4 := cell_kept hb4 HS3.out
      go_wp2_with fail
      clear c0 c1 c2 c3 c4 c5 c6 c7 c8 c9 y0 y1 y2 y3 y4 y5 y6 y7 y8 y9 t3 HK3
      generalize (w3.setCell ⟨gR, 2, none⟩ (.int .u32 (ppA x2.data.toList))).setCell ⟨gR, 3, none⟩ (.int .i64 (ppN x2.data.toList)) = W4 at *
      refine (parsePrefix_any x3 W4 hE4 l3).mono ?_
      rintro e w5 ⟨rfl, hbx⟩
      have hk5 := blk_below hbx hk4
      have hb5 := hb4.trans (hbx.mono hb4.size)
      obtain ⟨c0, c1, c2, c3, c4, c5, c6, c7, c8, c9⟩ := blk10 hk5
      have y0 := frozen_row hk5 0
      have y1 := frozen_row hk5 1
      have y2 := frozen_row hk5 2
      have y3 := frozen_row hk5 3
      have y4 := frozen_row hk5 4
      have y5 := frozen_row hk5 5
      have y6 := frozen_row hk5 6
      have y7 := frozen_row hk5 7
      have y8 := frozen_row hk5 8
      have y9 := frozen_row hk5 9
      have HK5 := Lib.hid hk5
      clear hbx t4 hk4 hb4 hE4 hk5 hb3 hE3
      have hb6 := (hb5.setCell (p := ⟨gR, 4, none⟩) hgR (.int .u32 (ppA x3.data.toList))).setCell (p := ⟨gR, 5, none⟩) hgR (.int .i64 (ppN x3.data.toList))
      have hk6 : ((w5.setCell ⟨gR, 4, none⟩ (.int .u32 (ppA x3.data.toList))).setCell ⟨gR, 5, none⟩ (.int .i64 (ppN x3.data.toList))).heap[gR]? = some (ruleObj (candF x0.data.toList x2.data.toList x3.data.toList x4.data.toList x5.data.toList (-1) (by omega))) := rset5 (u := .int .i64 (ppN x3.data.toList)) (rset4 (u := .int .u32 (ppA x3.data.toList)) HK5.out)
      have hE6 := hE1.below hb6
      obtain ⟨g0, g1, g2, g3, g4, g5, g6, g7, g8, g9⟩ := rule_blk (r := (candF x0.data.toList x2.data.toList x3.data.toList x4.data.toList x5.data.toList (-1) (by omega))) hk6
      have hT := ftText_any (candF x0.data.toList x2.data.toList x3.data.toList x4.data.toList x5.data.toList (-1) (by omega)) _ hE6
      have HT := Lib.hid hT
      go_upto_region 99 with fail
      clear c0 c1 c2 c3 c4 c5 c6 c7 c8 c9 y0 y1 y2 y3 y4 y5 y6 y7 y8 y9 HK5 HT
      generalize (w5.setCell ⟨gR, 4, none⟩ (.int .u32 (ppA x3.data.toList))).setCell ⟨gR, 5, none⟩ (.int .i64 (ppN x3.data.toList)) = W6 at *
      by_cases q1 : ppE x2.data.toList = 0
      · by_cases q2 : ppE x3.data.toList = 0
        · cases q3 : mayB (candF x0.data.toList x2.data.toList x3.data.toList x4.data.toList x5.data.toList (-1) (by omega)) with
          | true =>
            by_cases q4 : (candF x0.data.toList x2.data.toList x3.data.toList x4.data.toList x5.data.toList (-1) (by omega)).text = s.data.toList
            · have d1 : (ppE x2.data.toList != 0) = false := by simpa using q1
              have d2 : (ppE x3.data.toList != 0) = false := by simpa using q2
              rw [(told_yes q3).1, (told_yes q3).2] at hT
              have hq : ((⟨(candF x0.data.toList x2.data.toList x3.data.toList x4.data.toList x5.data.toList (-1) (by omega)).text.toArray⟩ : ByteArray).toList == s.toList) = true := by rw [list_of, list_of]; simp [q4]
              generalize (⟨(candF x0.data.toList x2.data.toList x3.data.toList x4.data.toList x5.data.toList (-1) (by omega)).text.toArray⟩ : ByteArray) = q at *
              have HT := Lib.hid hT
              clear hT g0 g1 g2 g3 g4 g5 g6 g7 g8 g9
              refine HT.out.mono ?_
              rintro e w7 ⟨rfl, hbx⟩
              have hk7 := blk_below hbx hk6
              have hbW := hb6.trans (hbx.mono hb6.size)
              clear hbx hk6 hb6 hE6
              have hz := Lib.hid (fr_some (by rw [HO.out, if_pos ⟨q1, q2, q3, q4⟩]))
              obtain ⟨g0, g1, g2, g3, g4, g5, g6, g7, g8, g9⟩ := rule_blk (r := (candF x0.data.toList x2.data.toList x3.data.toList x4.data.toList x5.data.toList (-1) (by omega))) hk7
              have hk0 := (hbW.block _ sz0).trans HK1.out
              obtain ⟨d0, d1, d2, d3, d4, d5, d6, d7, d8, d9⟩ := blk10 hk0
              have z0 := frozen_row hk0 0
              have z1 := frozen_row hk0 1
              have z2 := frozen_row hk0 2
              have z3 := frozen_row hk0 3
              have z4 := frozen_row hk0 4
              have z5 := frozen_row hk0 5
              have z6 := frozen_row hk0 6
              have z7 := frozen_row hk0 7
              have z8 := frozen_row hk0 8
              have z9 := frozen_row hk0 9
              have HK0 := Lib.hid hk0
              have hbw := hb1.trans (hbW.mono hb1.size)
              clear hk0
              clear hk7
              go_wp2
              exact bodyPost_ret (results_r (t1 := 2) (t3 := 3) (g := w.heap.size) (r := (candF x0.data.toList x2.data.toList x3.data.toList x4.data.toList x5.data.toList (-1) (by omega))) Tryz.results9 rfl rfl (rset9 (rset8 (rset7 (rset6 (rset5 (rset4 (rset3 (rset2 (rset1 (rset0 HK0.out))))))))))) rfl ⟨by rw [hz.out.1, hz.out.2]; rfl, ((((((((((hbw.setCell (Nat.le_refl _) _).setCell (Nat.le_refl _) _).setCell (Nat.le_refl _) _).setCell (Nat.le_refl _) _).setCell (Nat.le_refl _) _).setCell (Nat.le_refl _) _).setCell (Nat.le_refl _) _).setCell (Nat.le_refl _) _).setCell (Nat.le_refl _) _).setCell (Nat.le_refl _) _)⟩
            · have d1 : (ppE x2.data.toList != 0) = false := by simpa using q1
              have d2 : (ppE x3.data.toList != 0) = false := by simpa using q2
              rw [(told_yes q3).1, (told_yes q3).2] at hT
              have hq : ((⟨(candF x0.data.toList x2.data.toList x3.data.toList x4.data.toList x5.data.toList (-1) (by omega)).text.toArray⟩ : ByteArray).toList == s.toList) = false := by rw [list_of, list_of]; simpa using q4
              generalize (⟨(candF x0.data.toList x2.data.toList x3.data.toList x4.data.toList x5.data.toList (-1) (by omega)).text.toArray⟩ : ByteArray) = q at *
              have HT := Lib.hid hT
              clear hT g0 g1 g2 g3 g4 g5 g6 g7 g8 g9
              refine HT.out.mono ?_
              rintro e w7 ⟨rfl, hbx⟩
              have hk7 := blk_below hbx hk6
              have hbW := hb6.trans (hbx.mono hb6.size)
              clear hbx hk6 hb6 hE6
              have hz := Lib.hid (fr_none (by rw [HO.out, if_neg (fun h => q4 h.2.2.2)]))
              have hk0 := (hbW.block _ sz0).trans HK1.out
              obtain ⟨d0, d1, d2, d3, d4, d5, d6, d7, d8, d9⟩ := blk10 hk0
              have z0 := frozen_row hk0 0
              have z1 := frozen_row hk0 1
              have z2 := frozen_row hk0 2
              have z3 := frozen_row hk0 3
              have z4 := frozen_row hk0 4
              have z5 := frozen_row hk0 5
              have z6 := frozen_row hk0 6
              have z7 := frozen_row hk0 7
              have z8 := frozen_row hk0 8
              have z9 := frozen_row hk0 9
              have HK0 := Lib.hid hk0
              have hbw := hb1.trans (hbW.mono hb1.size)
              clear hk0
              clear hk7
              go_wp2
              exact bodyPost_ret (results_r (t1 := 2) (t3 := 3) (g := w.heap.size) (r := default) Tryz.results9 rfl rfl (rset9 (rset8 (rset7 (rset6 (rset5 (rset4 (rset3 (rset2 (rset1 (rset0 HK0.out))))))))))) rfl ⟨by rw [hz.out.1, hz.out.2]; rfl, ((((((((((hbw.setCell (Nat.le_refl _) _).setCell (Nat.le_refl _) _).setCell (Nat.le_refl _) _).setCell (Nat.le_refl _) _).setCell (Nat.le_refl _) _).setCell (Nat.le_refl _) _).setCell (Nat.le_refl _) _).setCell (Nat.le_refl _) _).setCell (Nat.le_refl _) _).setCell (Nat.le_refl _) _)⟩
          | false =>
            have d1 : (ppE x2.data.toList != 0) = false := by simpa using q1
            have d2 : (ppE x3.data.toList != 0) = false := by simpa using q2
            rw [(told_no q3).1, (told_no q3).2] at hT
            have HT := Lib.hid hT
            clear hT g0 g1 g2 g3 g4 g5 g6 g7 g8 g9
            refine HT.out.mono ?_
            rintro e w7 ⟨rfl, hbx⟩
            have hk7 := blk_below hbx hk6
            have hbW := hb6.trans (hbx.mono hb6.size)
            clear hbx hk6 hb6 hE6
            have hz := Lib.hid (fr_none (by rw [HO.out, if_neg (fun h => by rw [q3] at h; exact absurd h.2.2.1 (by decide))]))
            have hk0 := (hbW.block _ sz0).trans HK1.out
            obtain ⟨d0, d1, d2, d3, d4, d5, d6, d7, d8, d9⟩ := blk10 hk0
            have z0 := frozen_row hk0 0
            have z1 := frozen_row hk0 1
            have z2 := frozen_row hk0 2
            have z3 := frozen_row hk0 3
            have z4 := frozen_row hk0 4
            have z5 := frozen_row hk0 5
            have z6 := frozen_row hk0 6
            have z7 := frozen_row hk0 7
            have z8 := frozen_row hk0 8
            have z9 := frozen_row hk0 9
            have HK0 := Lib.hid hk0
            have hbw := hb1.trans (hbW.mono hb1.size)
            clear hk0
            clear hk7
            go_wp2
            exact bodyPost_ret (results_r (t1 := 2) (t3 := 3) (g := w.heap.size) (r := default) Tryz.results9 rfl rfl (rset9 (rset8 (rset7 (rset6 (rset5 (rset4 (rset3 (rset2 (rset1 (rset0 HK0.out))))))))))) rfl ⟨by rw [hz.out.1, hz.out.2]; rfl, ((((((((((hbw.setCell (Nat.le_refl _) _).setCell (Nat.le_refl _) _).setCell (Nat.le_refl _) _).setCell (Nat.le_refl _) _).setCell (Nat.le_refl _) _).setCell (Nat.le_refl _) _).setCell (Nat.le_refl _) _).setCell (Nat.le_refl _) _).setCell (Nat.le_refl _) _).setCell (Nat.le_refl _) _)⟩
        · have d1 : (ppE x2.data.toList != 0) = false := by simpa using q1
          have d2 : (ppE x3.data.toList != 0) = true := by simpa using q2
          have HT := Lib.hid hT
          clear hT g0 g1 g2 g3 g4 g5 g6 g7 g8 g9
          refine HT.out.mono ?_
          rintro e w7 ⟨rfl, hbx⟩
          have hk7 := blk_below hbx hk6
          have hbW := hb6.trans (hbx.mono hb6.size)
          clear hbx hk6 hb6 hE6
          have hz := Lib.hid (fr_none (by rw [HO.out, if_neg (fun h => q2 h.2.1)]))
          have hk0 := (hbW.block _ sz0).trans HK1.out
          obtain ⟨d0, d1, d2, d3, d4, d5, d6, d7, d8, d9⟩ := blk10 hk0
          have z0 := frozen_row hk0 0
          have z1 := frozen_row hk0 1
          have z2 := frozen_row hk0 2
          have z3 := frozen_row hk0 3
          have z4 := frozen_row hk0 4
          have z5 := frozen_row hk0 5
          have z6 := frozen_row hk0 6
          have z7 := frozen_row hk0 7
          have z8 := frozen_row hk0 8
          have z9 := frozen_row hk0 9
          have HK0 := Lib.hid hk0
          have hbw := hb1.trans (hbW.mono hb1.size)
          clear hk0
          clear hk7
          go_wp2
          exact bodyPost_ret (results_r (t1 := 2) (t3 := 3) (g := w.heap.size) (r := default) Tryz.results9 rfl rfl (rset9 (rset8 (rset7 (rset6 (rset5 (rset4 (rset3 (rset2 (rset1 (rset0 HK0.out))))))))))) rfl ⟨by rw [hz.out.1, hz.out.2]; rfl, ((((((((((hbw.setCell (Nat.le_refl _) _).setCell (Nat.le_refl _) _).setCell (Nat.le_refl _) _).setCell (Nat.le_refl _) _).setCell (Nat.le_refl _) _).setCell (Nat.le_refl _) _).setCell (Nat.le_refl _) _).setCell (Nat.le_refl _) _).setCell (Nat.le_refl _) _).setCell (Nat.le_refl _) _)⟩
      · have d1 : (ppE x2.data.toList != 0) = true := by simpa using q1
        have HT := Lib.hid hT
        clear hT g0 g1 g2 g3 g4 g5 g6 g7 g8 g9
        refine HT.out.mono ?_
        rintro e w7 ⟨rfl, hbx⟩
        have hk7 := blk_below hbx hk6
        have hbW := hb6.trans (hbx.mono hb6.size)
        clear hbx hk6 hb6 hE6
        have hz := Lib.hid (fr_none (by rw [HO.out, if_neg (fun h => q1 h.1)]))
        have hk0 := (hbW.block _ sz0).trans HK1.out
        obtain ⟨d0, d1, d2, d3, d4, d5, d6, d7, d8, d9⟩ := blk10 hk0
        have z0 := frozen_row hk0 0
        have z1 := frozen_row hk0 1
        have z2 := frozen_row hk0 2
        have z3 := frozen_row hk0 3
        have z4 := frozen_row hk0 4
        have z5 := frozen_row hk0 5
        have z6 := frozen_row hk0 6
        have z7 := frozen_row hk0 7
        have z8 := frozen_row hk0 8
        have z9 := frozen_row hk0 9
        have HK0 := Lib.hid hk0
        have hbw := hb1.trans (hbW.mono hb1.size)
        clear hk0
        clear hk7
        go_wp2
        exact bodyPost_ret (results_r (t1 := 2) (t3 := 3) (g := w.heap.size) (r := default) Tryz.results9 rfl rfl (rset9 (rset8 (rset7 (rset6 (rset5 (rset4 (rset3 (rset2 (rset1 (rset0 HK0.out))))))))))) rfl ⟨by rw [hz.out.1, hz.out.2]; rfl, ((((((((((hbw.setCell (Nat.le_refl _) _).setCell (Nat.le_refl _) _).setCell (Nat.le_refl _) _).setCell (Nat.le_refl _) _).setCell (Nat.le_refl _) _).setCell (Nat.le_refl _) _).setCell (Nat.le_refl _) _).setCell (Nat.le_refl _) _).setCell (Nat.le_refl _) _).setCell (Nat.le_refl _) _)⟩
    · have hq : (x1.toList == [97, 110, 121]) = false := by rw [list_of]; simpa [anyW] using ha
      by_cases hu : ∃ n, Lib.parseUintB 8 x1.data.toList = .ok n
      · obtain ⟨n, hu⟩ := hu
        have hp1 : protoR x1.data.toList = some (n : Int) := by unfold protoR; rw [if_neg ha, hu]
        have un := uint8_le hu
        go_wp2_with fail
        refine (uint8_yes x1 l1 n hu wc).mono ?_
        rintro e wu ⟨rfl, hbx⟩
        have hku := blk_below hbx hkR
        have hbu := hbR.trans (hbx.mono hbR.size)
        obtain ⟨c0, c1, c2, c3, c4, c5, c6, c7, c8, c9⟩ := blk10 hku
        have y0 := frozen_row hku 0
        have y1 := frozen_row hku 1
        have y2 := frozen_row hku 2
        have y3 := frozen_row hku 3
        have y4 := frozen_row hku 4
        have y5 := frozen_row hku 5
        have y6 := frozen_row hku 6
        have y7 := frozen_row hku 7
        have y8 := frozen_row hku 8
        have y9 := frozen_row hku 9
        have HKU := Lib.hid hku
        have hkp := rset1 (u := .int .i64 (n : Int)) HKU.out
        have hbp := hbu.setCell (p := ⟨gR, 1, none⟩) hgR (.int .i64 (n : Int))
        clear hbx hku hkR hbR hbu s1
        have hO := candF_O (hpr := (by omega)) HP.out hp1
        have HO := Lib.hid hO
        have hEc := hE1.below hbp
        have t2 := cell_kept hbp HS2.out
        go_wp2_with fail
        clear c0 c1 c2 c3 c4 c5 c6 c7 c8 c9 y0 y1 y2 y3 y4 y5 y6 y7 y8 y9 HKU
        generalize wu.setCell ⟨gR, 1, none⟩ (.int .i64 (n : Int)) = wp at *
        refine (parsePrefix_any x2 wp hEc l2).mono ?_
        rintro e w3 ⟨rfl, hbx⟩
        have hk3 := blk_below hbx hkp
        have hb3 := hbp.trans (hbx.mono hbp.size)
        have hE3 := hE1.below hb3
        have t3 := cell_kept hb3 HS3.out
        obtain ⟨c0, c1, c2, c3, c4, c5, c6, c7, c8, c9⟩ := blk10 hk3
        have y0 := frozen_row hk3 0
        have y1 := frozen_row hk3 1
        have y2 := frozen_row hk3 2
        have y3 := frozen_row hk3 3
        have y4 := frozen_row hk3 4
        have y5 := frozen_row hk3 5
        have y6 := frozen_row hk3 6
        have y7 := frozen_row hk3 7
        have y8 := frozen_row hk3 8
        have y9 := frozen_row hk3 9
        have HK3 := Lib.hid hk3
        clear hbx t2 hEc hk3
        have hb4 := (hb3.setCell (p := ⟨gR, 2, none⟩) hgR (.int .u32 (ppA x2.data.toList))).setCell (p := ⟨gR, 3, none⟩) hgR (.int .i64 (ppN x2.data.toList))
        have hk4 := rset3 (u := .int .i64 (ppN x2.data.toList)) (rset2 (u := .int .u32 (ppA x2.data.toList)) HK3.out)
        have hE4 := hE1.below hb4
        have t4 := cell_kept hb4 HS3.out
        go_wp2_with fail
        clear c0 c1 c2 c3 c4 c5 c6 c7 c8 c9 y0 y1 y2 y3 y4 y5 y6 y7 y8 y9 t3 HK3
        generalize (w3.setCell ⟨gR, 2, none⟩ (.int .u32 (ppA x2.data.toList))).setCell ⟨gR, 3, none⟩ (.int .i64 (ppN x2.data.toList)) = W4 at *
        refine (parsePrefix_any x3 W4 hE4 l3).mono ?_
        rintro e w5 ⟨rfl, hbx⟩
        have hk5 := blk_below hbx hk4
        have hb5 := hb4.trans (hbx.mono hb4.size)
        obtain ⟨c0, c1, c2, c3, c4, c5, c6, c7, c8, c9⟩ := blk10 hk5
        have y0 := frozen_row hk5 0
        have y1 := frozen_row hk5 1
        have y2 := frozen_row hk5 2
        have y3 := frozen_row hk5 3
        have y4 := frozen_row hk5 4
        have y5 := frozen_row hk5 5
        have y6 := frozen_row hk5 6
        have y7 := frozen_row hk5 7
        have y8 := frozen_row hk5 8
        have y9 := frozen_row hk5 9
        have HK5 := Lib.hid hk5
        clear hbx t4 hk4 hb4 hE4 hk5 hb3 hE3
        have hb6 := (hb5.setCell (p := ⟨gR, 4, none⟩) hgR (.int .u32 (ppA x3.data.toList))).setCell (p := ⟨gR, 5, none⟩) hgR (.int .i64 (ppN x3.data.toList))
        have hk6 : ((w5.setCell ⟨gR, 4, none⟩ (.int .u32 (ppA x3.data.toList))).setCell ⟨gR, 5, none⟩ (.int .i64 (ppN x3.data.toList))).heap[gR]? = some (ruleObj (candF x0.data.toList x2.data.toList x3.data.toList x4.data.toList x5.data.toList (n : Int) (by omega))) := rset5 (u := .int .i64 (ppN x3.data.toList)) (rset4 (u := .int .u32 (ppA x3.data.toList)) HK5.out)
        have hE6 := hE1.below hb6
        obtain ⟨g0, g1, g2, g3, g4, g5, g6, g7, g8, g9⟩ := rule_blk (r := (candF x0.data.toList x2.data.toList x3.data.toList x4.data.toList x5.data.toList (n : Int) (by omega))) hk6
        have hT := ftText_any (candF x0.data.toList x2.data.toList x3.data.toList x4.data.toList x5.data.toList (n : Int) (by omega)) _ hE6
        have HT := Lib.hid hT
        go_upto_region 99 with fail
        clear c0 c1 c2 c3 c4 c5 c6 c7 c8 c9 y0 y1 y2 y3 y4 y5 y6 y7 y8 y9 HK5 HT
        generalize (w5.setCell ⟨gR, 4, none⟩ (.int .u32 (ppA x3.data.toList))).setCell ⟨gR, 5, none⟩ (.int .i64 (ppN x3.data.toList)) = W6 at *
        by_cases q1 : ppE x2.data.toList = 0
        · by_cases q2 : ppE x3.data.toList = 0
          · cases q3 : mayB (candF x0.data.toList x2.data.toList x3.data.toList x4.data.toList x5.data.toList (n : Int) (by omega)) with
            | true =>
              by_cases q4 : (candF x0.data.toList x2.data.toList x3.data.toList x4.data.toList x5.data.toList (n : Int) (by omega)).text = s.data.toList
              · have d1 : (ppE x2.data.toList != 0) = false := by simpa using q1
                have d2 : (ppE x3.data.toList != 0) = false := by simpa using q2
                rw [(told_yes q3).1, (told_yes q3).2] at hT
                have hq : ((⟨(candF x0.data.toList x2.data.toList x3.data.toList x4.data.toList x5.data.toList (n : Int) (by omega)).text.toArray⟩ : ByteArray).toList == s.toList) = true := by rw [list_of, list_of]; simp [q4]
                generalize (⟨(candF x0.data.toList x2.data.toList x3.data.toList x4.data.toList x5.data.toList (n : Int) (by omega)).text.toArray⟩ : ByteArray) = q at *
                have HT := Lib.hid hT
                clear hT g0 g1 g2 g3 g4 g5 g6 g7 g8 g9
                refine HT.out.mono ?_
                rintro e w7 ⟨rfl, hbx⟩
                have hk7 := blk_below hbx hk6
                have hbW := hb6.trans (hbx.mono hb6.size)
                clear hbx hk6 hb6 hE6
                have hz := Lib.hid (fr_some (by rw [HO.out, if_pos ⟨q1, q2, q3, q4⟩]))
                obtain ⟨g0, g1, g2, g3, g4, g5, g6, g7, g8, g9⟩ := rule_blk (r := (candF x0.data.toList x2.data.toList x3.data.toList x4.data.toList x5.data.toList (n : Int) (by omega))) hk7
                have hk0 := (hbW.block _ sz0).trans HK1.out
                obtain ⟨d0, d1, d2, d3, d4, d5, d6, d7, d8, d9⟩ := blk10 hk0
                have z0 := frozen_row hk0 0
                have z1 := frozen_row hk0 1
                have z2 := frozen_row hk0 2
                have z3 := frozen_row hk0 3
                have z4 := frozen_row hk0 4
                have z5 := frozen_row hk0 5
                have z6 := frozen_row hk0 6
                have z7 := frozen_row hk0 7
                have z8 := frozen_row hk0 8
                have z9 := frozen_row hk0 9
                have HK0 := Lib.hid hk0
                have hbw := hb1.trans (hbW.mono hb1.size)
                clear hk0
                clear hk7
                go_wp2
                exact bodyPost_ret (results_r (t1 := 2) (t3 := 3) (g := w.heap.size) (r := (candF x0.data.toList x2.data.toList x3.data.toList x4.data.toList x5.data.toList (n : Int) (by omega))) Tryz.results9 rfl rfl (rset9 (rset8 (rset7 (rset6 (rset5 (rset4 (rset3 (rset2 (rset1 (rset0 HK0.out))))))))))) rfl ⟨by rw [hz.out.1, hz.out.2]; rfl, ((((((((((hbw.setCell (Nat.le_refl _) _).setCell (Nat.le_refl _) _).setCell (Nat.le_refl _) _).setCell (Nat.le_refl _) _).setCell (Nat.le_refl _) _).setCell (Nat.le_refl _) _).setCell (Nat.le_refl _) _).setCell (Nat.le_refl _) _).setCell (Nat.le_refl _) _).setCell (Nat.le_refl _) _)⟩
              · have d1 : (ppE x2.data.toList != 0) = false := by simpa using q1
                have d2 : (ppE x3.data.toList != 0) = false := by simpa using q2
                rw [(told_yes q3).1, (told_yes q3).2] at hT
                have hq : ((⟨(candF x0.data.toList x2.data.toList x3.data.toList x4.data.toList x5.data.toList (n : Int) (by omega)).text.toArray⟩ : ByteArray).toList == s.toList) = false := by rw [list_of, list_of]; simpa using q4
                generalize (⟨(candF x0.data.toList x2.data.toList x3.data.toList x4.data.toList x5.data.toList (n : Int) (by omega)).text.toArray⟩ : ByteArray) = q at *
                have HT := Lib.hid hT
                clear hT g0 g1 g2 g3 g4 g5 g6 g7 g8 g9
                refine HT.out.mono ?_
                rintro e w7 ⟨rfl, hbx⟩
                have hk7 := blk_below hbx hk6
                have hbW := hb6.trans (hbx.mono hb6.size)
                clear hbx hk6 hb6 hE6
                have hz := Lib.hid (fr_none (by rw [HO.out, if_neg (fun h => q4 h.2.2.2)]))
                have hk0 := (hbW.block _ sz0).trans HK1.out
                obtain ⟨d0, d1, d2, d3, d4, d5, d6, d7, d8, d9⟩ := blk10 hk0
                have z0 := frozen_row hk0 0
                have z1 := frozen_row hk0 1
                have z2 := frozen_row hk0 2
                have z3 := frozen_row hk0 3
                have z4 := frozen_row hk0 4
                have z5 := frozen_row hk0 5
                have z6 := frozen_row hk0 6
                have z7 := frozen_row hk0 7
                have z8 := frozen_row hk0 8
                have z9 := frozen_row hk0 9
                have HK0 := Lib.hid hk0
                have hbw := hb1.trans (hbW.mono hb1.size)
                clear hk0
                clear hk7
                go_wp2
                exact bodyPost_ret (results_r (t1 := 2) (t3 := 3) (g := w.heap.size) (r := default) Tryz.results9 rfl rfl (rset9 (rset8 (rset7 (rset6 (rset5 (rset4 (rset3 (rset2 (rset1 (rset0 HK0.out))))))))))) rfl ⟨by rw [hz.out.1, hz.out.2]; rfl, ((((((((((hbw.setCell (Nat.le_refl _) _).setCell (Nat.le_refl _) _).setCell (Nat.le_refl _) _).setCell (Nat.le_refl _) _).setCell (Nat.le_refl _) _).setCell (Nat.le_refl _) _).setCell (Nat.le_refl _) _).setCell (Nat.le_refl _) _).setCell (Nat.le_refl _) _).setCell (Nat.le_refl _) _)⟩
            | false =>
              have d1 : (ppE x2.data.toList != 0) = false := by simpa using q1
              have d2 : (ppE x3.data.toList != 0) = false := by simpa using q2
              rw [(told_no q3).1, (told_no q3).2] at hT
              have HT := Lib.hid hT
              clear hT g0 g1 g2 g3 g4 g5 g6 g7 g8 g9
              refine HT.out.mono ?_
              rintro e w7 ⟨rfl, hbx⟩
              have hk7 := blk_below hbx hk6
              have hbW := hb6.trans (hbx.mono hb6.size)
              clear hbx hk6 hb6 hE6
              have hz := Lib.hid (fr_none (by rw [HO.out, if_neg (fun h => by rw [q3] at h; exact absurd h.2.2.1 (by decide))]))
              have hk0 := (hbW.block _ sz0).trans HK1.out
              obtain ⟨d0, d1, d2, d3, d4, d5, d6, d7, d8, d9⟩ := blk10 hk0
              have z0 := frozen_row hk0 0
              have z1 := frozen_row hk0 1
              have z2 := frozen_row hk0 2
              have z3 := frozen_row hk0 3
              have z4 := frozen_row hk0 4
              have z5 := frozen_row hk0 5
              have z6 := frozen_row hk0 6
              have z7 := frozen_row hk0 7
              have z8 := frozen_row hk0 8
              have z9 := frozen_row hk0 9
              have HK0 := Lib.hid hk0
              have hbw := hb1.trans (hbW.mono hb1.size)
              clear hk0
              clear hk7
              go_wp2
              exact bodyPost_ret (results_r (t1 := 2) (t3 := 3) (g := w.heap.size) (r := default) Tryz.results9 rfl rfl (rset9 (rset8 (rset7 (rset6 (rset5 (rset4 (rset3 (rset2 (rset1 (rset0 HK0.out))))))))))) rfl ⟨by rw [hz.out.1, hz.out.2]; rfl, ((((((((((hbw.setCell (Nat.le_refl _) _).setCell (Nat.le_refl _) _).setCell (Nat.le_refl _) _).setCell (Nat.le_refl _) _).setCell (Nat.le_refl _) _).setCell (Nat.le_refl _) _).setCell (Nat.le_refl _) _).setCell (Nat.le_refl _) _).setCell (Nat.le_refl _) _).setCell (Nat.le_refl _) _)⟩
          · have d1 : (ppE x2.data.toList != 0) = false := by simpa using q1
            have d2 : (ppE x3.data.toList != 0) = true := by simpa using q2
            have HT := Lib.hid hT
            clear hT g0 g1 g2 g3 g4 g5 g6 g7 g8 g9
            refine HT.out.mono ?_
            rintro e w7 ⟨rfl, hbx⟩
            have hk7 := blk_below hbx hk6
            have hbW := hb6.trans (hbx.mono hb6.size)
            clear hbx hk6 hb6 hE6
            have hz := Lib.hid (fr_none (by rw [HO.out, if_neg (fun h => q2 h.2.1)]))
            have hk0 := (hbW.block _ sz0).trans HK1.out
            obtain ⟨d0, d1, d2, d3, d4, d5, d6, d7, d8, d9⟩ := blk10 hk0
            have z0 := frozen_row hk0 0
            have z1 := frozen_row hk0 1
            have z2 := frozen_row hk0 2
            have z3 := frozen_row hk0 3
            have z4 := frozen_row hk0 4
            have z5 := frozen_row hk0 5
            have z6 := frozen_row hk0 6
            have z7 := frozen_row hk0 7
            have z8 := frozen_row hk0 8
            have z9 := frozen_row hk0 9
            have HK0 := Lib.hid hk0
            have hbw := hb1.trans (hbW.mono hb1.size)
            clear hk0
            clear hk7
            go_wp2
            exact bodyPost_ret (results_r (t1 := 2) (t3 := 3) (g := w.heap.size) (r := default) Tryz.results9 rfl rfl (rset9 (rset8 (rset7 (rset6 (rset5 (rset4 (rset3 (rset2 (rset1 (rset0 HK0.out))))))))))) rfl ⟨by rw [hz.out.1, hz.out.2]; rfl, ((((((((((hbw.setCell (Nat.le_refl _) _).setCell (Nat.le_refl _) _).setCell (Nat.le_refl _) _).setCell (Nat.le_refl _) _).setCell (Nat.le_refl _) _).setCell (Nat.le_refl _) _).setCell (Nat.le_refl _) _).setCell (Nat.le_refl _) _).setCell (Nat.le_refl _) _).setCell (Nat.le_refl _) _)⟩
        · have d1 : (ppE x2.data.toList != 0) = true := by simpa using q1
          have HT := Lib.hid hT
          clear hT g0 g1 g2 g3 g4 g5 g6 g7 g8 g9
          refine HT.out.mono ?_
          rintro e w7 ⟨rfl, hbx⟩
          have hk7 := blk_below hbx hk6
          have hbW := hb6.trans (hbx.mono hb6.size)
          clear hbx hk6 hb6 hE6
          have hz := Lib.hid (fr_none (by rw [HO.out, if_neg (fun h => q1 h.1)]))
          have hk0 := (hbW.block _ sz0).trans HK1.out
          obtain ⟨d0, d1, d2, d3, d4, d5, d6, d7, d8, d9⟩ := blk10 hk0
          have z0 := frozen_row hk0 0
          have z1 := frozen_row hk0 1
          have z2 := frozen_row hk0 2
          have z3 := frozen_row hk0 3
          have z4 := frozen_row hk0 4
          have z5 := frozen_row hk0 5
          have z6 := frozen_row hk0 6
          have z7 := frozen_row hk0 7
          have z8 := frozen_row hk0 8
          have z9 := frozen_row hk0 9
          have HK0 := Lib.hid hk0
          have hbw := hb1.trans (hbW.mono hb1.size)
          clear hk0
          clear hk7
          go_wp2
          exact bodyPost_ret (results_r (t1 := 2) (t3 := 3) (g := w.heap.size) (r := default) Tryz.results9 rfl rfl (rset9 (rset8 (rset7 (rset6 (rset5 (rset4 (rset3 (rset2 (rset1 (rset0 HK0.out))))))))))) rfl ⟨by rw [hz.out.1, hz.out.2]; rfl, ((((((((((hbw.setCell (Nat.le_refl _) _).setCell (Nat.le_refl _) _).setCell (Nat.le_refl _) _).setCell (Nat.le_refl _) _).setCell (Nat.le_refl _) _).setCell (Nat.le_refl _) _).setCell (Nat.le_refl _) _).setCell (Nat.le_refl _) _).setCell (Nat.le_refl _) _).setCell (Nat.le_refl _) _)⟩
      · have hu : ∀ n, Lib.parseUintB 8 x1.data.toList ≠ .ok n := fun n e => hu ⟨n, e⟩
        have hp1 : protoR x1.data.toList = none := by
          unfold protoR
          rw [if_neg ha]
          split
          · rename_i e; exact absurd e (hu _)
          · rfl
        go_wp2_with fail
        refine (uint8_no x1 l1 hu wc (hE1.below hbR)).mono ?_
        rintro e wu ⟨⟨xu, tq, qq, rfl, gu0, gu1⟩, hbx⟩
        have hbW := hbR.trans (hbx.mono hbR.size)
        have hz := Lib.hid (fr_none (frO_proto HP.out hp1))
        clear hbx hkR hbR s1
        have hk0 := (hbW.block _ sz0).trans HK1.out
        obtain ⟨d0, d1, d2, d3, d4, d5, d6, d7, d8, d9⟩ := blk10 hk0
        have z0 := frozen_row hk0 0
        have z1 := frozen_row hk0 1
        have z2 := frozen_row hk0 2
        have z3 := frozen_row hk0 3
        have z4 := frozen_row hk0 4
        have z5 := frozen_row hk0 5
        have z6 := frozen_row hk0 6
        have z7 := frozen_row hk0 7
        have z8 := frozen_row hk0 8
        have z9 := frozen_row hk0 9
        have HK0 := Lib.hid hk0
        have hbw := hb1.trans (hbW.mono hb1.size)
        clear hk0
        go_wp2
        exact bodyPost_ret (results_r (t1 := 2) (t3 := 3) (g := w.heap.size) (r := default) Tryz.results9 rfl rfl (rset9 (rset8 (rset7 (rset6 (rset5 (rset4 (rset3 (rset2 (rset1 (rset0 HK0.out))))))))))) rfl ⟨by rw [hz.out.1, hz.out.2]; rfl, ((((((((((hbw.setCell (Nat.le_refl _) _).setCell (Nat.le_refl _) _).setCell (Nat.le_refl _) _).setCell (Nat.le_refl _) _).setCell (Nat.le_refl _) _).setCell (Nat.le_refl _) _).setCell (Nat.le_refl _) _).setCell (Nat.le_refl _) _).setCell (Nat.le_refl _) _).setCell (Nat.le_refl _) _)⟩
theorem ftParse_any (s : ByteArray) (w : World) (hE : Env w) (hlim : s.size < 4294967281) :
    Calls Tryz.prog 9 #[.string s] w fun e w' => e = .returned (.tuple #[(frV s.data.toList).agg, .int .i64 (frE s.data.toList)]) ∧ Below w.heap.size w w' := by
  have hP := splitB_pieces 32 s
  have hN := countB_pieces 32 s
  have hl : (Lib.splitB ⟨#[32]⟩ 0 (Lib.countB s ⟨#[32]⟩) s).length = (pieces 32 s.data.toList).length := by rw [← hP, List.length_map]
  by_cases h6 : (pieces 32 s.data.toList).length = 6
  · obtain ⟨x0, x1, x2, x3, x4, x5, hL⟩ := six_list (L := Lib.splitB ⟨#[32]⟩ 0 (Lib.countB s ⟨#[32]⟩) s) (by rw [hl]; exact h6)
    rw [hL] at hP
    exact ftParse_six s x0 x1 x2 x3 x4 x5 w hE hlim hP.symm hL (by rw [hN, h6])
  · exact ftParse_not s _ w hE hlim hl.symm rfl (by rw [hN, hl]) (by rw [hl]; exact h6)
end Go.Proofs.YtakkgamhceignaaGreatDoor

/-
  Walks over the document's addresses: digits, Number, Read.
-/
namespace Go.Proofs.YtakkgamhceignaaGreatDoor
open Go Go.RowKit Go.Sort

theorem conv_one (w : World) (x : Int) (h0 : 0 ≤ x) (h1 : x < 256) : (convert 124 9 (.slice (some ⟨w.heap.size, 0, none⟩) 1 1)).run Tryz.prog (w.alloc (.cells #[.int .u8 x] 5)) = .ok (.string ⟨#[UInt8.ofNat x.toNat]⟩) (w.alloc (.cells #[.int .u8 x] 5)) := by
  have h := run_convert_bytes_back (P := Tryz.prog) (w.alloc (.cells #[.int .u8 x] 5)) 124 9 5 ⟨w.heap.size, 0, none⟩ 1 [UInt8.ofNat x.toNat] Tryz.underlying124 Tryz.underlying5 Tryz.underlying9 (fun j hj => by
    simp at hj
    subst hj
    have e : ((UInt8.ofNat x.toNat).toNat : Int) = x := by simp; omega
    have e2 : (⟨w.heap.size, 0, none⟩ : Addr).add 0 = ⟨w.heap.size, 0, none⟩ := rfl
    rw [e2, cell_of_row _ _ _ _ _ _ (heap_alloc_new w _)]
    simp only [List.getElem_cons_zero, e]
    rfl)
  exact h
theorem dec_len : ∀ (k n : Nat), n < 10 ^ (k + 1) → (Lib.decDigits n).length ≤ k + 1
  | 0, n, h => by rw [decDigits_small (by simpa using h)]; simp
  | k + 1, n, h => by
    by_cases h9 : n < 10
    · rw [decDigits_small h9]; simp
    · rw [decDigits_big h9, List.length_append]
      have := dec_len k (n / 10) (by rw [Nat.pow_succ] at h; omega)
      simp; omega
theorem dec_push {k n : Nat} {t : ByteArray} (h9 : 9 < k) (h : Lib.decDigits k ++ t.data.toList = Lib.decDigits n) : Lib.decDigits (k / 10) ++ ((⟨#[UInt8.ofNat (48 + k % 10)]⟩ : ByteArray) ++ t).data.toList = Lib.decDigits n := by
  rw [← h, decDigits_big (n := k) (by omega)]
  simp [ByteArray.data_append]
theorem dec_last {k n : Nat} {t : ByteArray} (h9 : ¬ 9 < k) (h : Lib.decDigits k ++ t.data.toList = Lib.decDigits n) : (⟨#[UInt8.ofNat (48 + k)]⟩ : ByteArray) ++ t = ⟨(Lib.decDigits n).toArray⟩ := by
  apply byte_ext
  show _ = Lib.decDigits n
  rw [← h, decDigits_small (by omega)]
  simp [ByteArray.data_append]
theorem size_le_of {k n : Nat} {t : ByteArray} (hn : n < 18446744073709551616) (h : Lib.decDigits k ++ t.data.toList = Lib.decDigits n) : t.size ≤ 20 := by
  have h1 := dec_len 19 n (Nat.lt_of_lt_of_le hn (by decide))
  rw [← h, List.length_append] at h1
  have e : t.size = t.data.toList.length := (Array.length_toList).symm
  rw [e]; omega
theorem dig_wrap (d : Int) (h0 : 0 ≤ d) (h1 : d < 10) : IntKind.u64.wrap (48 + d) = 48 + d ∧ (48 + d) % 256 = 48 + d := by
  refine ⟨?_, by omega⟩
  simp [IntKind.wrap, IntKind.bits, IntKind.signed]
  omega
set_option maxRecDepth 100000 in
set_option maxHeartbeats 1000000 in
theorem digits_any (n : Int) (w : World) (h0 : 0 ≤ n) (hn : Hid (n < 18446744073709551616)) :
    Calls Tryz.prog 93 #[.int .u64 n] w fun e w' => e = .returned (.string ⟨(Lib.decDigits n.toNat).toArray⟩) ∧ Below w.heap.size w w' := by
  go_enter Tryz.func93, Tryz.ntmps93
  go_wp2
  go_loopw [0, 3] (fun m s wr => ∃ (k : Int) (t : ByteArray), m = .int .u64 k ∧ s = .string t ∧ 0 ≤ k ∧ Hid (k < 18446744073709551616) ∧ Hid (Lib.decDigits k.toNat ++ t.data.toList = Lib.decDigits n.toNat) ∧ Below w.heap.size w wr) (fun m _ _ => (intOf m).toNat)
  case atStart => exact ⟨n, ⟨#[]⟩, rfl, rfl, h0, hn, Lib.hid (by simp), Below.refl _ _⟩
  case round =>
    obtain ⟨k, t, rfl, rfl, hk, hk2, hd, hb⟩ := hrel
    have hts := size_le_of (by have := hn.out; omega) hd.out
    by_cases h9 : 9 < k
    · have hI : k > 9 := h9
      go_upto_region 3 with fail
      have d0 : 0 ≤ k % 10 := by omega
      have d1 : k % 10 < 10 := by omega
      have e1 : k.tmod 10 = k % 10 := by rw [Int.tmod_eq_emod_of_nonneg hk]
      obtain ⟨e2, e3⟩ := dig_wrap (k % 10) d0 d1
      have e4 : k.tdiv 10 = k / 10 := Int.tdiv_eq_ediv_of_nonneg hk
      have hc := conv_one wr (48 + k % 10) (by omega) (by omega)
      rw [show (48 + k % 10).toNat = 48 + k.toNat % 10 by omega] at hc
      have hd2 := Lib.hid (dec_push (k := k.toNat) (by omega) hd.out)
      have hk3 := Lib.hid (show k / 10 < 18446744073709551616 by have := hk2.out; omega)
      have hw1 : IntKind.u64.wrap (k / 10) = k / 10 := by
        have := hk2.out
        simp [IntKind.wrap, IntKind.bits, IntKind.signed]; omega
      have hb2 := hb.alloc hb.size (.cells #[.int .u8 (48 + k % 10)] 5)
      generalize hx : UInt8.ofNat (48 + k.toNat % 10) = x at *
      clear hI hd hk2 hx
      go_wp2
      refine ⟨⟨k / 10, _, rfl, rfl, by omega, hk3, ?_, hb2⟩, by simp only [intOf]; omega⟩
      rw [show (k / 10).toNat = k.toNat / 10 by omega]
      exact hd2
    · have hI : ¬ k > 9 := h9
      go_upto_region 5 with fail
      obtain ⟨e2, e3⟩ := dig_wrap k hk (by omega)
      have hc := conv_one wr (48 + k) (by omega) (by omega)
      rw [show (48 + k).toNat = 48 + k.toNat by omega] at hc
      have hd2 := Lib.hid (dec_last (k := k.toNat) (by omega) hd.out)
      have hb2 := hb.alloc hb.size (.cells #[.int .u8 (48 + k)] 5)
      generalize hx : UInt8.ofNat (48 + k.toNat) = x at *
      clear hI hd hk2 hx
      go_wp2
      go_ret
      exact ⟨by rw [← hd2.out]; rfl, hb2⟩
end Go.Proofs.YtakkgamhceignaaGreatDoor

/-
  Walks over the document's addresses: Number, Text, PrefixText.
-/
namespace Go.Proofs.YtakkgamhceignaaGreatDoor
open Go Go.RowKit Go.Sort

set_option maxRecDepth 100000 in
set_option maxHeartbeats 1000000 in
theorem refNumber_any (n : Int) (w : World) (h0 : -9223372036854775808 ≤ n) (h1 : n ≤ 9223372036854775807) :
    Calls Tryz.prog 36 #[.int .i64 n] w fun e w' => e = .returned (.string ⟨(Lib.itoa n).toArray⟩) ∧ Below w.heap.size w w' := by
  have hl := Lib.itoa_length_le n h0 h1
  by_cases hn : n < 0
  · have e1 : wrap64 (n + 1) = n + 1 := by unfold wrap64; omega
    have e2 : wrap64 (-(n + 1)) = -(n + 1) := by unfold wrap64; omega
    have e3 : IntKind.u64.wrap (-(n + 1)) = -(n + 1) := by simp [IntKind.wrap, IntKind.bits, IntKind.signed]; omega
    have e4 : IntKind.u64.wrap (-(n + 1) + 1) = -n := by simp [IntKind.wrap, IntKind.bits, IntKind.signed]; omega
    have HD := Lib.hid (fun v => digits_any (-n) v (by omega) (Lib.hid (by omega)))
    have hi : Lib.itoa n = 45 :: Lib.decDigits (-n).toNat := by
      unfold Lib.itoa
      rw [if_pos hn, show n.natAbs = (-n).toNat by omega]
    have hz : (Lib.decDigits (-n).toNat).length ≤ 21 := by rw [hi] at hl; simp at hl; omega
    have HI := Lib.hid hi
    have hneg : n < 0 := hn
    clear h0 h1 hl hi hn
    go_enter Tryz.func36, Tryz.ntmps36
    go_wp2_with fail
    refine (HD.out _).mono ?_
    rintro e w1 ⟨rfl, hb⟩
    go_wp2
    go_ret
    exact ⟨by rw [HI.out]; exact congrArg (fun x => Ending.returned (.string x)) (byte_ext (by simp [ByteArray.data_append])), hb⟩
  · have HD := Lib.hid (fun v => digits_any n v (by omega) (Lib.hid (by omega)))
    have hi := Lib.hid (show Lib.itoa n = Lib.decDigits n.toNat by unfold Lib.itoa; rw [if_neg hn])
    have e1 : IntKind.u64.wrap n = n := by simp [IntKind.wrap, IntKind.bits, IntKind.signed]; omega
    clear h0 h1
    go_enter Tryz.func36, Tryz.ntmps36
    go_wp2_with fail
    refine (HD.out _).mono ?_
    rintro e w1 ⟨rfl, hb⟩
    go_wp2
    go_ret
    exact ⟨by rw [hi.out]; rfl, hb⟩

theorem refNum_oct (a k : Nat) (v : World) : Calls Tryz.prog 36 #[.int .i64 (octet a k)] v fun e w' => e = .returned (.string ⟨(dec3 (octet a k)).toArray⟩) ∧ Below v.heap.size v w' := by
  have h0 := octet_lt a k
  have h := refNumber_any (octet a k) v (by omega) (by omega)
  rw [show Lib.itoa (octet a k : Int) = Lib.decDigits (octet a k) by unfold Lib.itoa; rw [if_neg (by omega), Int.toNat_natCast], dec3_eq (by omega)] at h
  exact h
set_option maxRecDepth 100000 in
set_option maxHeartbeats 2000000 in
theorem refText_any (a : Nat) (ha : a < 4294967296) (w : World) :
    Calls Tryz.prog 57 #[.int .u32 a] w fun e w' => e = .returned (.string (textA a)) ∧ Below w.heap.size w w' := by
  have i0 : (a : Int) / 16777216 = (octet a 0 : Int) := by unfold octet; simp only [Nat.reduceSub, Nat.reducePow]; omega
  have i1 : (a : Int) / 65536 % 256 = (octet a 1 : Int) := by unfold octet; simp only [Nat.reduceSub, Nat.reducePow]; omega
  have i2 : (a : Int) / 256 % 256 = (octet a 2 : Int) := by unfold octet; simp only [Nat.reduceSub, Nat.reducePow]; omega
  have i3 : (a : Int) % 256 = (octet a 3 : Int) := by unfold octet; simp only [Nat.reduceSub, Nat.pow_zero, Nat.div_one]; omega
  have n0 := Lib.hid (refNum_oct a 0)
  have n1 := Lib.hid (refNum_oct a 1)
  have n2 := Lib.hid (refNum_oct a 2)
  have n3 := Lib.hid (refNum_oct a 3)
  have z0 := dec3_len (octet a 0)
  have z1 := dec3_len (octet a 1)
  have z2 := dec3_len (octet a 2)
  have z3 := dec3_len (octet a 3)
  have hT := Lib.hid (textA_eq a)
  generalize dec3 (octet a 0) = x0 at *
  generalize dec3 (octet a 1) = x1 at *
  generalize dec3 (octet a 2) = x2 at *
  generalize dec3 (octet a 3) = x3 at *
  go_enter Tryz.func57, Tryz.ntmps57
  go_wp2_with fail
  refine (n0.out _).mono ?_
  rintro e w1 ⟨rfl, hb1⟩
  go_wp2_with fail
  refine (n1.out _).mono ?_
  rintro e w2 ⟨rfl, hb2⟩
  go_wp2_with fail
  refine (n2.out _).mono ?_
  rintro e w3 ⟨rfl, hb3⟩
  go_wp2_with fail
  refine (n3.out _).mono ?_
  rintro e w4 ⟨rfl, hb4⟩
  have hb := ((hb1.trans (hb2.mono hb1.size)).trans (hb3.mono (Nat.le_trans hb1.size hb2.size))).trans (hb4.mono (Nat.le_trans (Nat.le_trans hb1.size hb2.size) hb3.size))
  clear hb1 hb2 hb3 hb4
  go_wp2
  go_ret
  exact ⟨by rw [hT.out]; exact congrArg (fun x => Ending.returned (.string x)) (byte_ext (by simp [ByteArray.data_append])), hb⟩

set_option maxHeartbeats 1000000 in
theorem refPrefixText_any (a : Nat) (n : Int) (ha : a < 4294967296) (h0 : -9223372036854775808 ≤ n) (h1 : n ≤ 9223372036854775807) (w : World) :
    Calls Tryz.prog 37 #[.agg #[.int .u32 a, .int .i64 n]] w fun e w' => e = .returned (.string (textP a n)) ∧ Below w.heap.size w w' := by
  have hZ := textA_size a
  have hI := Lib.itoa_length_le n h0 h1
  go_enter Tryz.func37, Tryz.ntmps37
  go_wp2
  have c0 : (w.alloc (.cells #[.int .u32 a, .int .i64 n] 25)).cell? ⟨w.heap.size, 0, none⟩ = some (.int .u32 a) := by simp
  have c1 : (w.alloc (.cells #[.int .u32 a, .int .i64 n] 25)).cell? ⟨w.heap.size, 1, none⟩ = some (.int .i64 n) := by simp
  have hbW : Below w.heap.size w (w.alloc (.cells #[.int .u32 a, .int .i64 n] 25)) := (Below.refl _ _).alloc (Nat.le_refl _) _
  generalize w.alloc (.cells #[.int .u32 a, .int .i64 n] 25) = W at *
  have F0 := cell_regrown c0
  have F1 := cell_regrown c1
  refine wp_region_quiet_below (by kernel_rfl) (by kernel_rfl) ?_
  repeat (first | go_big_quiet_step ((first | (go_at_call 57; exact Calls.regrown_of (refText_any _ (by omega) _)) | (go_at_call 36; exact Calls.regrown_of (refNumber_any _ _ (by omega) (by omega))))) | quiet_step ((first | (go_at_call 57; exact Calls.regrown_of (refText_any _ (by omega) _)) | (go_at_call 36; exact Calls.regrown_of (refNumber_any _ _ (by omega) (by omega))))))
  refine wpQuiet_nil ?_
  intro _ hw'
  obtain ⟨⟨nq, osq⟩, hw''⟩ := hw'
  subst hw''
  go_wp2
  go_ret
  exact ⟨rfl, (hbW.trans ((below_regrown W nq osq).mono hbW.size))⟩
end Go.Proofs.YtakkgamhceignaaGreatDoor

/-
  The document's text of a rule.
-/
namespace Go.Proofs.YtakkgamhceignaaGreatDoor
open Go Go.RowKit Go.Sort

theorem refNumI_any (n : Int) (h0 : 0 ≤ n) (h1 : n ≤ 9223372036854775807) (w : World) :
    Calls Tryz.prog 36 #[.int .i64 n] w fun e w' => e = .returned (.string ⟨(Lib.decDigits n.toNat).toArray⟩) ∧ Below w.heap.size w w' := by
  obtain ⟨k, rfl⟩ := Int.eq_ofNat_of_zero_le h0
  have h := refNumber_any k w (by omega) h1
  rw [Lib.itoa_nonneg] at h
  rw [Int.toNat_natCast]
  exact h
theorem refPrefI_any (a n : Int) (ha : 0 ≤ a ∧ a < 4294967296) (h0 : -9223372036854775808 ≤ n) (h1 : n ≤ 9223372036854775807) (w : World) :
    Calls Tryz.prog 37 #[.agg #[.int .u32 a, .int .i64 n]] w fun e w' => e = .returned (.string ⟨(prefT a n).toArray⟩) ∧ Below w.heap.size w w' := by
  obtain ⟨a, rfl⟩ := Int.eq_ofNat_of_zero_le ha.1
  have h := refPrefixText_any a n (by omega) h0 h1 w
  have e : (⟨(prefT (a : Int) n).toArray⟩ : ByteArray) = textP a n := byte_ext (by simp [prefT])
  rw [e]
  exact h
set_option maxRecDepth 100000 in
set_option maxHeartbeats 2000000 in
theorem refPortT_any (lo hi : Int) (h0 : 0 ≤ lo ∧ lo < 4294967296) (h1 : 0 ≤ hi ∧ hi < 4294967296) (w : World) :
    Calls Tryz.prog 38 #[.agg #[.int .u32 lo, .int .u32 hi]] w fun e w' => e = .returned (.string ⟨(portT lo hi).toArray⟩) ∧ Below w.heap.size w w' := by
  have z1 := dec_size5 h0.2
  have z2 := dec_size5 h1.2
  have HX := Lib.hid (show ∀ W, Calls Tryz.prog 36 #[.int .i64 lo] W _ from fun W => refNumI_any lo h0.1 (by omega) W)
  have HY := Lib.hid (show ∀ W, Calls Tryz.prog 36 #[.int .i64 hi] W _ from fun W => refNumI_any hi h1.1 (by omega) W)
  obtain ⟨h00, h01⟩ := h0
  obtain ⟨h10, h11⟩ := h1
  go_enter Tryz.func38, Tryz.ntmps38
  go_upto_region 1 with fail
  have hk := heap_alloc_new w (.cells #[.int .u32 lo, .int .u32 hi] 27)
  have hbW := below1 w (.cells #[.int .u32 lo, .int .u32 hi] 27)
  generalize w.alloc (.cells #[.int .u32 lo, .int .u32 hi] 27) = W at *
  obtain ⟨c0, c1, _, _⟩ := two_cells hk
  have F0 := cell_regrown c0
  have F1 := cell_regrown c1
  have hp := Lib.hid (show (⟨(portT lo hi).toArray⟩ : ByteArray) = (⟨(Lib.decDigits lo.toNat).toArray⟩ ++ ⟨#[45]⟩) ++ ⟨(Lib.decDigits hi.toNat).toArray⟩ from byte_ext (by simp [portT, ByteArray.data_append]))
  generalize (⟨(Lib.decDigits lo.toNat).toArray⟩ : ByteArray) = q1 at *
  generalize (⟨(Lib.decDigits hi.toNat).toArray⟩ : ByteArray) = q2 at *
  refine wp_region_quiet_below (by kernel_rfl) (by kernel_rfl) ?_
  repeat (first | go_big_quiet_step ((first | (go_at_call 36; first | (with_reducible exact Calls.regrown_of (HX.out _)) | (with_reducible exact Calls.regrown_of (HY.out _))))) | quiet_step ((first | (go_at_call 36; first | (with_reducible exact Calls.regrown_of (HX.out _)) | (with_reducible exact Calls.regrown_of (HY.out _))))))
  refine wpQuiet_nil ?_
  intro _ hw'
  obtain ⟨⟨nq, osq⟩, hw''⟩ := hw'
  subst hw''
  go_wp2
  go_ret
  exact ⟨by rw [hp.out]; rfl, hbW.trans ((below_regrown W nq osq).mono hbW.size)⟩
end Go.Proofs.YtakkgamhceignaaGreatDoor
