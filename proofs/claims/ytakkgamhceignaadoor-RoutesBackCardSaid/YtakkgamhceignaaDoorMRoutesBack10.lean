/-
  Joined texts: Ft2, Ft3, Mix1.
-/
import Derived.Test.YtakkgamhceignaaDoorMRoutesBack9
import Derived.Test.YtakkgamhceignaaDoorMRoutesBack4
import Derived.Test.YtakkgamhceignaaDoorMRoutesBack7
import Derived.Deep.RegionHeld3
import Derived.Deep.DeepCutAuto
/-
  The walks of filter.ends and of filter.Parse.
-/
namespace Go.Proofs.YtakkgamhceignaaDoor
open Go Go.RowKit Go.Lib Go.Sort

theorem uint16_yes (y : ByteArray) (hl : y.size < 4294967281) (u : Nat) (h : Lib.parseUintB 16 y.data.toList = .ok u) (w : World) :
    Calls Tryd.prog 60 #[.string y, .int .i64 10, .int .i64 16] w fun e w' => e = .returned (.tuple #[.int .u64 u, .nilIface]) ∧ Below w.heap.size w w' :=
  (Tryd.strconv_ParseUint_10_at16_ok y (by omega) u h w).mono fun _ _ hh => ⟨hh.1, below_of_atoi (t := 5) (hh.2.imp id fun e => ⟨_, e⟩)⟩
theorem uint16_no (y : ByteArray) (hl : y.size < 4294967281) (h : ∀ n, Lib.parseUintB 16 y.data.toList ≠ .ok n) (w : World) (hE : Env w) :
    Calls Tryd.prog 60 #[.string y, .int .i64 10, .int .i64 16] w fun e w' => (∃ (x : Int) (tq : TypeId) (vq : Value), e = .returned (.tuple #[.int .u64 x, .iface tq vq]) ∧ 0 ≤ x ∧ x < 65536) ∧ Below w.heap.size w w' := by
  cases hp : Lib.parseUintB 16 y.data.toList with
  | ok n => exact absurd hp (h n)
  | range =>
    obtain ⟨tp, p, hs⟩ := hE.ran
    refine (Tryd.strconv_ParseUint_10_at16_range y (by omega) hp _ w hs (Or.inr ⟨_, _, rfl⟩)).mono ?_
    rintro e w1 ⟨N, rfl, _, _, hb⟩
    exact ⟨⟨_, _, _, rfl, by omega, by omega⟩, hb⟩
  | _ =>
    obtain ⟨tp, p, hs⟩ := hE.syn
    refine (Tryd.strconv_ParseUint_10_at16_syntax y (by omega) hp _ w hs (Or.inr ⟨_, _, rfl⟩)).mono ?_
    rintro e w1 ⟨N, rfl, _, _, hb⟩
    exact ⟨⟨_, _, _, rfl, by omega, by omega⟩, hb⟩
theorem uint8_yes (y : ByteArray) (hl : y.size < 4294967281) (u : Nat) (h : Lib.parseUintB 8 y.data.toList = .ok u) (w : World) :
    Calls Tryd.prog 60 #[.string y, .int .i64 10, .int .i64 8] w fun e w' => e = .returned (.tuple #[.int .u64 u, .nilIface]) ∧ Below w.heap.size w w' :=
  (Tryd.strconv_ParseUint_10_at8_ok y (by omega) u h w).mono fun _ _ hh => ⟨hh.1, below_of_atoi (t := 5) (hh.2.imp id fun e => ⟨_, e⟩)⟩
theorem uint8_no (y : ByteArray) (hl : y.size < 4294967281) (h : ∀ n, Lib.parseUintB 8 y.data.toList ≠ .ok n) (w : World) (hE : Env w) :
    Calls Tryd.prog 60 #[.string y, .int .i64 10, .int .i64 8] w fun e w' => (∃ (x : Int) (tq : TypeId) (vq : Value), e = .returned (.tuple #[.int .u64 x, .iface tq vq]) ∧ 0 ≤ x ∧ x < 256) ∧ Below w.heap.size w w' := by
  cases hp : Lib.parseUintB 8 y.data.toList with
  | ok n => exact absurd hp (h n)
  | range =>
    obtain ⟨tp, p, hs⟩ := hE.ran
    refine (Tryd.strconv_ParseUint_10_at8_range y (by omega) hp _ w hs (Or.inr ⟨_, _, rfl⟩)).mono ?_
    rintro e w1 ⟨N, rfl, _, _, hb⟩
    exact ⟨⟨_, _, _, rfl, by omega, by omega⟩, hb⟩
  | _ =>
    obtain ⟨tp, p, hs⟩ := hE.syn
    refine (Tryd.strconv_ParseUint_10_at8_syntax y (by omega) hp _ w hs (Or.inr ⟨_, _, rfl⟩)).mono ?_
    rintro e w1 ⟨N, rfl, _, _, hb⟩
    exact ⟨⟨_, _, _, rfl, by omega, by omega⟩, hb⟩
set_option maxRecDepth 100000 in
set_option maxHeartbeats 4000000 in
theorem endsR_eq {w lo hi : List UInt8} {two : Bool} (h : Lib.cut w [45] = (lo, hi, two)) : endsR w = match Lib.parseUintB 16 lo, Lib.parseUintB 16 hi with
    | .ok a, .ok b => (a, b)
    | _, _ => (1, 0) := by
  unfold endsR
  rw [h]
  rfl
theorem ends_yes {w lo hi : List UInt8} {two : Bool} {a b : Nat} (h : Lib.cut w [45] = (lo, hi, two)) (ha : Lib.parseUintB 16 lo = .ok a) (hb : Lib.parseUintB 16 hi = .ok b) : endsR w = ((a : Int), (b : Int)) := by rw [endsR_eq h, ha, hb]
theorem ends_no1 {w lo hi : List UInt8} {two : Bool} (h : Lib.cut w [45] = (lo, hi, two)) (ha : ∀ n, Lib.parseUintB 16 lo ≠ .ok n) : endsR w = (1, 0) := by
  rw [endsR_eq h]
  split
  · rename_i e _; exact absurd e (ha _)
  · rfl
theorem ends_no2 {w lo hi : List UInt8} {two : Bool} (h : Lib.cut w [45] = (lo, hi, two)) (hb : ∀ n, Lib.parseUintB 16 hi ≠ .ok n) : endsR w = (1, 0) := by
  rw [endsR_eq h]
  split
  · rename_i e; exact absurd e (hb _)
  · rfl
theorem results_1s {fn : Func} {tmps : Array Value} {w : World} {g : Nat} {a b : Value} {t1 : Nat} (hf : fn.results = #[.cell t1 24]) (h1 : tmps.getD t1 undef = .pointer (some ⟨g, 0, none⟩))
    (k1 : w.heap[g]? = some (.cells #[a, b] 24 (0, 0))) :
    (results fn tmps).run Tryd.prog w = .ok (.agg #[a, b]) w := by
  obtain ⟨c0, c1, _, _⟩ := two_cells k1
  have h1' : tmps[t1]?.getD undef = .pointer (some ⟨g, 0, none⟩) := by simpa using h1
  simp [results, hf, h1', go_sem, c0, c1]
end Go.Proofs.YtakkgamhceignaaDoor

/-
  The walk of filter.Parse (written by wip/gen/genft3.py).
-/
namespace Go.Proofs.YtakkgamhceignaaDoor
open Go Go.RowKit Go.Lib Go.Sort

theorem rset0 {w : World} {g : Nat} {v0 v1 v2 v3 v4 v5 v6 v7 v8 v9 u : Value} {t : TypeId} (h : w.heap[g]? = some (.cells #[v0, v1, v2, v3, v4, v5, v6, v7, v8, v9] t (0, 0))) : (w.setCell ⟨g, 0, none⟩ u).heap[g]? = some (.cells #[u, v1, v2, v3, v4, v5, v6, v7, v8, v9] t (0, 0)) := set_at h
theorem rset1 {w : World} {g : Nat} {v0 v1 v2 v3 v4 v5 v6 v7 v8 v9 u : Value} {t : TypeId} (h : w.heap[g]? = some (.cells #[v0, v1, v2, v3, v4, v5, v6, v7, v8, v9] t (0, 0))) : (w.setCell ⟨g, 1, none⟩ u).heap[g]? = some (.cells #[v0, u, v2, v3, v4, v5, v6, v7, v8, v9] t (0, 0)) := set_at h
theorem rset2 {w : World} {g : Nat} {v0 v1 v2 v3 v4 v5 v6 v7 v8 v9 u : Value} {t : TypeId} (h : w.heap[g]? = some (.cells #[v0, v1, v2, v3, v4, v5, v6, v7, v8, v9] t (0, 0))) : (w.setCell ⟨g, 2, none⟩ u).heap[g]? = some (.cells #[v0, v1, u, v3, v4, v5, v6, v7, v8, v9] t (0, 0)) := set_at h
theorem rset3 {w : World} {g : Nat} {v0 v1 v2 v3 v4 v5 v6 v7 v8 v9 u : Value} {t : TypeId} (h : w.heap[g]? = some (.cells #[v0, v1, v2, v3, v4, v5, v6, v7, v8, v9] t (0, 0))) : (w.setCell ⟨g, 3, none⟩ u).heap[g]? = some (.cells #[v0, v1, v2, u, v4, v5, v6, v7, v8, v9] t (0, 0)) := set_at h
theorem rset4 {w : World} {g : Nat} {v0 v1 v2 v3 v4 v5 v6 v7 v8 v9 u : Value} {t : TypeId} (h : w.heap[g]? = some (.cells #[v0, v1, v2, v3, v4, v5, v6, v7, v8, v9] t (0, 0))) : (w.setCell ⟨g, 4, none⟩ u).heap[g]? = some (.cells #[v0, v1, v2, v3, u, v5, v6, v7, v8, v9] t (0, 0)) := set_at h
theorem rset5 {w : World} {g : Nat} {v0 v1 v2 v3 v4 v5 v6 v7 v8 v9 u : Value} {t : TypeId} (h : w.heap[g]? = some (.cells #[v0, v1, v2, v3, v4, v5, v6, v7, v8, v9] t (0, 0))) : (w.setCell ⟨g, 5, none⟩ u).heap[g]? = some (.cells #[v0, v1, v2, v3, v4, u, v6, v7, v8, v9] t (0, 0)) := set_at h
theorem rset6 {w : World} {g : Nat} {v0 v1 v2 v3 v4 v5 v6 v7 v8 v9 u : Value} {t : TypeId} (h : w.heap[g]? = some (.cells #[v0, v1, v2, v3, v4, v5, v6, v7, v8, v9] t (0, 0))) : (w.setCell ⟨g, 6, none⟩ u).heap[g]? = some (.cells #[v0, v1, v2, v3, v4, v5, u, v7, v8, v9] t (0, 0)) := set_at h
theorem rset7 {w : World} {g : Nat} {v0 v1 v2 v3 v4 v5 v6 v7 v8 v9 u : Value} {t : TypeId} (h : w.heap[g]? = some (.cells #[v0, v1, v2, v3, v4, v5, v6, v7, v8, v9] t (0, 0))) : (w.setCell ⟨g, 7, none⟩ u).heap[g]? = some (.cells #[v0, v1, v2, v3, v4, v5, v6, u, v8, v9] t (0, 0)) := set_at h
theorem rset8 {w : World} {g : Nat} {v0 v1 v2 v3 v4 v5 v6 v7 v8 v9 u : Value} {t : TypeId} (h : w.heap[g]? = some (.cells #[v0, v1, v2, v3, v4, v5, v6, v7, v8, v9] t (0, 0))) : (w.setCell ⟨g, 8, none⟩ u).heap[g]? = some (.cells #[v0, v1, v2, v3, v4, v5, v6, v7, u, v9] t (0, 0)) := set_at h
theorem rset9 {w : World} {g : Nat} {v0 v1 v2 v3 v4 v5 v6 v7 v8 v9 u : Value} {t : TypeId} (h : w.heap[g]? = some (.cells #[v0, v1, v2, v3, v4, v5, v6, v7, v8, v9] t (0, 0))) : (w.setCell ⟨g, 9, none⟩ u).heap[g]? = some (.cells #[v0, v1, v2, v3, v4, v5, v6, v7, v8, u] t (0, 0)) := set_at h
theorem blk10 {w : World} {g : Nat} {v0 v1 v2 v3 v4 v5 v6 v7 v8 v9 : Value} {t : TypeId} (h : w.heap[g]? = some (.cells #[v0, v1, v2, v3, v4, v5, v6, v7, v8, v9] t (0, 0))) : w.cell? ⟨g, 0, none⟩ = some v0 ∧ w.cell? ⟨g, 1, none⟩ = some v1 ∧ w.cell? ⟨g, 2, none⟩ = some v2 ∧ w.cell? ⟨g, 3, none⟩ = some v3 ∧ w.cell? ⟨g, 4, none⟩ = some v4 ∧ w.cell? ⟨g, 5, none⟩ = some v5 ∧ w.cell? ⟨g, 6, none⟩ = some v6 ∧ w.cell? ⟨g, 7, none⟩ = some v7 ∧ w.cell? ⟨g, 8, none⟩ = some v8 ∧ w.cell? ⟨g, 9, none⟩ = some v9 :=
  ⟨cell_of_row w g 0 _ t (0, 0) h, cell_of_row w g 1 _ t (0, 0) h, cell_of_row w g 2 _ t (0, 0) h, cell_of_row w g 3 _ t (0, 0) h, cell_of_row w g 4 _ t (0, 0) h, cell_of_row w g 5 _ t (0, 0) h, cell_of_row w g 6 _ t (0, 0) h, cell_of_row w g 7 _ t (0, 0) h, cell_of_row w g 8 _ t (0, 0) h, cell_of_row w g 9 _ t (0, 0) h⟩
/-- The rule that the program reads of the words. -/
def candF (p0 p2 p3 p4 p5 : List UInt8) (pr : Int) (hpr : -9223372036854775808 ≤ pr ∧ pr ≤ 9223372036854775807) : RuleV := ⟨permR p0, pr, ppA p2, ppN p2, ppA p3, ppN p3, (endsR p4).1, (endsR p4).2, (endsR p5).1, (endsR p5).2, hpr, ppA_lt p2, ppA_lt p3, ⟨(endsR_lt p4).1, by have := endsR_lt p4; omega⟩, ⟨(endsR_lt p4).2.2.1, by have := endsR_lt p4; omega⟩, ⟨(endsR_lt p5).1, by have := endsR_lt p5; omega⟩, ⟨(endsR_lt p5).2.2.1, by have := endsR_lt p5; omega⟩⟩
theorem candF_O {l p0 p1 p2 p3 p4 p5 : List UInt8} {pr : Int} {hpr : -9223372036854775808 ≤ pr ∧ pr ≤ 9223372036854775807} (hp : pieces 32 l = [p0, p1, p2, p3, p4, p5]) (h1 : protoR p1 = some pr) :
    frO l = if ppE p2 = 0 ∧ ppE p3 = 0 ∧ mayB (candF p0 p2 p3 p4 p5 pr hpr) = true ∧ (candF p0 p2 p3 p4 p5 pr hpr).text = l then some (candF p0 p2 p3 p4 p5 pr hpr) else none :=
  frO_cand hp ⟨rfl, rfl, rfl, rfl, rfl⟩ h1 rfl rfl
def zeroRule : RuleV := default
theorem six_list {L : List ByteArray} (h : L.length = 6) : ∃ a b c d e f, L = [a, b, c, d, e, f] := six h
theorem below_al {W V : World} {o : Obj} (h : Below W.heap.size W V) : Below W.heap.size W (V.alloc o) := h.alloc h.size o
theorem cell_al {V : World} {o : Obj} {a : Addr} {v : Value} (c : V.cell? a = some v) : (V.alloc o).cell? a = some v := cell_kept (below1 V o) c
theorem cell_dr {V : World} {a : Addr} {v : Value} (c : V.cell? a = some v) : V.drew.cell? a = some v := c
theorem keep3 {W V : World} {a b c : Addr} {x y z : Value} (h0 : W.cell? a = some x) (h1 : W.cell? b = some y) (h2 : W.cell? c = some z) (h : Below W.heap.size W V) : V.cell? a = some x ∧ V.cell? b = some y ∧ V.cell? c = some z ∧ Below W.heap.size W V := ⟨cell_kept h h0, cell_kept h h1, cell_kept h h2, h⟩
theorem st10 {W V : World} {g : Nat} {u0 u1 u2 u3 u4 u5 u6 u7 u8 u9 : Value} (h : Below W.heap.size W V) (hg : W.heap.size ≤ g) : Below W.heap.size W ((((((((((V.setCell ⟨g, 0, none⟩ u0).setCell ⟨g, 1, none⟩ u1).setCell ⟨g, 2, none⟩ u2).setCell ⟨g, 3, none⟩ u3).setCell ⟨g, 4, none⟩ u4).setCell ⟨g, 5, none⟩ u5).setCell ⟨g, 6, none⟩ u6).setCell ⟨g, 7, none⟩ u7).setCell ⟨g, 8, none⟩ u8).setCell ⟨g, 9, none⟩ u9) := ((((((((((h.setCell (p := ⟨g, 0, none⟩) hg u0).setCell (p := ⟨g, 1, none⟩) hg u1).setCell (p := ⟨g, 2, none⟩) hg u2).setCell (p := ⟨g, 3, none⟩) hg u3).setCell (p := ⟨g, 4, none⟩) hg u4).setCell (p := ⟨g, 5, none⟩) hg u5).setCell (p := ⟨g, 6, none⟩) hg u6).setCell (p := ⟨g, 7, none⟩) hg u7).setCell (p := ⟨g, 8, none⟩) hg u8).setCell (p := ⟨g, 9, none⟩) hg u9)
theorem st10b {V : World} {g : Nat} {u0 u1 u2 u3 u4 u5 u6 u7 u8 u9 v0 v1 v2 v3 v4 v5 v6 v7 v8 v9 : Value} {t : TypeId} (h : V.heap[g]? = some (.cells #[v0, v1, v2, v3, v4, v5, v6, v7, v8, v9] t (0, 0))) : ((((((((((V.setCell ⟨g, 0, none⟩ u0).setCell ⟨g, 1, none⟩ u1).setCell ⟨g, 2, none⟩ u2).setCell ⟨g, 3, none⟩ u3).setCell ⟨g, 4, none⟩ u4).setCell ⟨g, 5, none⟩ u5).setCell ⟨g, 6, none⟩ u6).setCell ⟨g, 7, none⟩ u7).setCell ⟨g, 8, none⟩ u8).setCell ⟨g, 9, none⟩ u9).heap[g]? = some (.cells #[u0, u1, u2, u3, u4, u5, u6, u7, u8, u9] t (0, 0)) := (rset9 (rset8 (rset7 (rset6 (rset5 (rset4 (rset3 (rset2 (rset1 (rset0 h))))))))))
theorem fin1 {W V : World} {o : Obj} (h : Below W.heap.size W V) : ∃ g, Value.pointer (some ⟨V.heap.size, 0, none⟩) = .pointer (some ⟨g, 0, none⟩) ∧ W.heap.size ≤ g ∧ (V.alloc o).heap[g]? = some o ∧ Below W.heap.size W (V.alloc o) := ⟨_, rfl, h.size, heap_alloc_new _ _, below_al h⟩
theorem fin2 {W V : World} {g0 : Nat} {u0 u1 u2 u3 u4 u5 u6 u7 u8 u9 : Value} {t : TypeId} (h : Below W.heap.size W V) (hq : V.heap[g0]? = some (.cells #[.bool false, .int .i64 0, .int .u32 0, .int .i64 0, .int .u32 0, .int .i64 0, .int .u32 0, .int .u32 0, .int .u32 0, .int .u32 0] t (0, 0))) (hg : W.heap.size ≤ g0) : ∃ g, Value.pointer (some ⟨g0, 0, none⟩) = .pointer (some ⟨g, 0, none⟩) ∧ W.heap.size ≤ g ∧ ((((((((((V.setCell ⟨g0, 0, none⟩ u0).setCell ⟨g0, 1, none⟩ u1).setCell ⟨g0, 2, none⟩ u2).setCell ⟨g0, 3, none⟩ u3).setCell ⟨g0, 4, none⟩ u4).setCell ⟨g0, 5, none⟩ u5).setCell ⟨g0, 6, none⟩ u6).setCell ⟨g0, 7, none⟩ u7).setCell ⟨g0, 8, none⟩ u8).setCell ⟨g0, 9, none⟩ u9).heap[g]? = some (.cells #[u0, u1, u2, u3, u4, u5, u6, u7, u8, u9] t (0, 0)) ∧ Below W.heap.size W ((((((((((V.setCell ⟨g0, 0, none⟩ u0).setCell ⟨g0, 1, none⟩ u1).setCell ⟨g0, 2, none⟩ u2).setCell ⟨g0, 3, none⟩ u3).setCell ⟨g0, 4, none⟩ u4).setCell ⟨g0, 5, none⟩ u5).setCell ⟨g0, 6, none⟩ u6).setCell ⟨g0, 7, none⟩ u7).setCell ⟨g0, 8, none⟩ u8).setCell ⟨g0, 9, none⟩ u9) := ⟨_, rfl, hg, st10b hq, st10 h hg⟩
theorem below_of {w V : World} (h : Below w.heap.size w V) : Below w.heap.size w V := h
end Go.Proofs.YtakkgamhceignaaDoor

/-
  A region that draws its order, walked along a tree: plain operations (any of which may be taken first), barriers (alone), and forks, where one operation that waits for nothing (an alloc) may come ahead of a barrier: no program in sight.
-/
namespace Go.Proofs.YtakkgamhceignaaDoor
open Go Go.RowKit Go.Sort

section
variable {P : Program} {ops : Array Oper} {md : Region.Mode} {S : World → Prop} {Q : Exit → Act → World → Prop}
/-- An operation that hands back a value, or stops: besides those of plainB, max and min, and a slice cut. -/
def plainC : Op → Bool
  | .call c => (match c.callee with
    | .builtin .max => true
    | .builtin .min => true
    | _ => false)
  | .slice _ _ _ _ _ => true
  | o => plainB o
theorem plainC_value {o : Oper} (h : plainC o.op = true) {ρ : Operand → Value} {w w' : World} {n : Go.Next} (hr : (execOp ρ o).run P w = .ok n w') : ∃ v, n = .value v := by
  obtain ⟨dst, op, type, pos, after, guard⟩ := o
  cases op with
  | call c =>
    obtain ⟨callee, args, argTypes⟩ := c
    cases callee with
    | builtin b =>
      cases b <;> simp only [plainC] at h
      all_goals first
        | (cases h; done)
        | (simp only [execOp, resolve, invoke, builtin, Sem.run_bind, Sem.run_pure, Result.andThen_ok] at hr; first | exact then_value (f := fun x => x) hr | exact then_value hr | (injection hr with hr _; exact ⟨_, hr.symm⟩))
    | _ => simp only [plainC] at h; cases h
  | slice t x l hh m =>
    simp only [execOp, Sem.run_bind, Sem.run_pure] at hr
    first | exact then_value (f := fun x => x) hr | exact then_value hr | (injection hr with hr _; exact ⟨_, hr.symm⟩)
  | _ =>
    simp only [plainC] at h
    exact plain_value h hr
theorem yields_quietC {o : Oper} {a : Act} {K : Act → Prop} (h : plainC o.op = true) (hq : o.quiet P a S K) : ∃ v, (∀ w, S w → (execOp a.eval o).run P w = .ok (.value v) w) ∧ K (a.put o.dst v) := by
  obtain ⟨v, h1, h2⟩ := hq
  refine ⟨v, fun w hw => ?_, h2⟩
  have h3 := h1 w hw
  unfold Oper.quietAt at h3
  generalize hr : (execOp a.eval o).run P w = r at h3
  cases r with
  | ok n w' =>
    obtain ⟨u, rfl⟩ := plainC_value h hr
    simp only [Oper.quietUpon] at h3
    rw [h3.1, h3.2]
  | halt x w' => simp only [Oper.quietUpon] at h3

/-- The tree of a walk. -/
inductive MixT
  | done
  | plain (k : Nat) (t : MixT)
  | bar (k : Nat) (t : MixT)
  | fork (k : Nat) (t : MixT) (f : Nat) (u : MixT)
def MixT.depth : MixT → Nat
  | .done => 0
  | .plain _ t => t.depth + 1
  | .bar _ t => t.depth + 1
  | .fork _ t _ _ => t.depth + 1
/-- The region's edges bear the tree. -/
def treeB (md : Region.Mode) (ops : Array Oper) : MixT → Array Bool → Bool
  | .done, listed => (Region.ready md ops listed).isEmpty
  | .plain k t, listed => (Region.ready md ops listed).contains k && Region.free md ops listed k && (match ops[k]? with | some o => plainC o.op | none => false) && treeB md ops t (listed.setIfInBounds k true)
  | .bar k t, listed => decide (Region.ready md ops listed = [k]) && treeB md ops t (listed.setIfInBounds k true)
  | .fork k t f u, listed => (decide (Region.ready md ops listed = [k, f]) || decide (Region.ready md ops listed = [f, k])) && decide (t.depth = u.depth) && treeB md ops t (listed.setIfInBounds k true) && treeB md ops u (listed.setIfInBounds f true)
/-- An operation that comes up, and what follows. -/
def stepW (P : Program) (ops : Array Oper) (Q : Exit → Act → World → Prop) (k : Nat) (S : World → Prop) (K : (World → Prop) → Act → World → Prop) (a : Act) (w : World) : Prop :=
  ∃ o, ops[k]? = some o ∧ if Region.wanted o (yielded ops a.tmps) then o.wp P a w (fun a' w' => ∃ S' : World → Prop, S' w' ∧ (∀ v, S' v → S v) ∧ K S' a' w') Q else K S (a.put o.dst undef) w
def treeW (P : Program) (ops : Array Oper) (Q : Exit → Act → World → Prop) : MixT → (World → Prop) → Act → World → Prop
  | .done, _, a, w => Q .normal a w
  | .plain k t, S, a, w => ∃ o, ops[k]? = some o ∧ if Region.wanted o (yielded ops a.tmps) then o.quiet P a S (fun a' => treeW P ops Q t S a' w) else treeW P ops Q t S (a.put o.dst undef) w
  | .bar k t, S, a, w => stepW P ops Q k S (treeW P ops Q t) a w
  | .fork k t f u, S, a, w => stepW P ops Q k S (treeW P ops Q t) a w ∧ stepW P ops Q f S (treeW P ops Q u) a w
theorem step_sound {k : Nat} {K : (World → Prop) → Act → World → Prop} {fuel : Nat} {listed : Array Bool} {a : Act} {w : World} (hS : S w) (h : stepW P ops Q k S K a w)
    (ih : ∀ S' a' w', S' w' → K S' a' w' → wpAnyH P md ops Q S' fuel (listed.setIfInBounds k true) a' w') :
    wpOp P ops Q k (fun a' w' => S w' ∧ wpAnyH P md ops Q S fuel (listed.setIfInBounds k true) a' w') a w := by
  obtain ⟨o, h0, h⟩ := h
  unfold wpOp
  simp only [h0]
  by_cases hw : Region.wanted o (yielded ops a.tmps) = true
  · rw [if_pos hw] at h ⊢
    refine .inl (Oper.wp_mono (fun a' w' hh => ?_) h)
    obtain ⟨S', h1, h2, h3⟩ := hh
    exact ⟨h2 _ h1, wpAnyH_class h2 _ _ _ _ (ih S' a' w' h1 h3)⟩
  · rw [if_neg hw] at h ⊢
    exact ⟨hS, ih S _ w hS h⟩
theorem tree_sound (hs : Region.noSelect ops = true) (hQ : ∀ d v c a w, Q (.panic c) (Act.put a d v) w → Q (.panic c) a w) :
    ∀ (t : MixT) (S : World → Prop) (listed : Array Bool) (a : Act) (w : World), treeB md ops t listed = true → S w → treeW P ops Q t S a w → wpAnyH P md ops Q S t.depth listed a w := by
  intro t
  induction t with
  | done =>
    intro S listed a w hB _ h
    exact ⟨by simpa [treeB] using hB, h⟩
  | plain k t ih =>
    intro S listed a w hB hS h
    simp only [treeW] at h
    obtain ⟨o, h0, h⟩ := h
    simp only [treeB, Bool.and_eq_true, h0] at hB
    obtain ⟨⟨⟨hr, hf⟩, hp⟩, hB'⟩ := hB
    by_cases hw : Region.wanted o (yielded ops a.tmps) = true
    · rw [if_pos hw] at h
      obtain ⟨v, hv, hK⟩ := yields_quietC hp h
      exact wpAnyH_take h0 hs hf hr (fun c a w => hQ o.dst v c a w) (.inl ⟨hw, hv⟩) hS (ih S _ _ w hB' hS hK)
    · rw [if_neg hw] at h
      exact wpAnyH_take h0 hs hf hr (fun c a w => hQ o.dst undef c a w) (.inr ⟨by simpa using hw, rfl⟩) hS (ih S _ _ w hB' hS h)
  | bar k t ih =>
    intro S listed a w hB hS h
    simp only [treeW] at h
    simp only [treeB, Bool.and_eq_true, decide_eq_true_eq] at hB
    obtain ⟨hr, hB'⟩ := hB
    refine wpAnyH_all hr (by simp) fun i hi => ?_
    obtain rfl : i = k := by simpa using hi
    exact step_sound hS h fun S' a' w' h1 h3 => ih S' _ a' w' hB' h1 h3
  | fork k t f u iht ihu =>
    intro S listed a w hB hS h
    simp only [treeW] at h
    simp only [treeB, Bool.and_eq_true, Bool.or_eq_true, decide_eq_true_eq] at hB
    obtain ⟨⟨⟨hr, hd⟩, hB1⟩, hB2⟩ := hB
    have hall : ∀ i, i = k ∨ i = f → wpOp P ops Q i (fun a' w' => S w' ∧ wpAnyH P md ops Q S t.depth (listed.setIfInBounds i true) a' w') a w := by
      rintro i (rfl | rfl)
      · exact step_sound hS h.1 fun S' a' w' h1 h3 => iht S' _ a' w' hB1 h1 h3
      · rw [hd]
        exact step_sound hS h.2 fun S' a' w' h1 h3 => ihu S' _ a' w' hB2 h1 h3
    rcases hr with hr | hr
    · exact wpAnyH_all hr (by simp) fun i hi => hall i (by simpa using hi)
    · exact wpAnyH_all hr (by simp) fun i hi => hall i (by have : i = f ∨ i = k := by simpa using hi
                                                           exact this.symm)
/-- The same as a list of marks: a plain operation, a barrier, a barrier with a fork ahead. -/
def treeOk (l : List Oper) (t : MixT) : Bool := Region.noSelect l.toArray && decide (t.depth = l.length) && treeB .any l.toArray t (Array.replicate l.length false)
theorem wp_region_tree {id : Nat} {a : Act} {w : World} {l : List Oper} (t : MixT) (hm : P.follows .mixedOrders = true) (hB : treeOk l t = true)
    (h : treeW P l.toArray (NoPanic Q) t (fun w' => ∃ p : Regrown, w' = grow (redrawn w p.d) p.os) a { w with drawn := w.drawn + 1 }) : (Code.region id l.toArray true).wp P Q a w := by
  simp only [treeOk, Bool.and_eq_true, decide_eq_true_eq] at hB
  obtain ⟨⟨hs, hlen⟩, hmix⟩ := hB
  refine wp_region_noPanic (wp_region_held (S := fun w' => ∃ p : Regrown, w' = grow (redrawn w p.d) p.os) hm ?_)
  have H := tree_sound (md := .any) hs (fun d v c a w hh => hh) t _ (Array.replicate l.length false) a { w with drawn := w.drawn + 1 } hmix ⟨⟨w.drawn + 1, #[]⟩, by rw [grow_empty]; rfl⟩ h
  rw [hlen] at H
  simpa using H
/-- The same, the class being that of an older world. -/
theorem wp_region_treeB {id : Nat} {a : Act} {w W0 : World} {l : List Oper} (t : MixT) (hb : Below W0.heap.size W0 w) (hm : P.follows .mixedOrders = true) (hB : treeOk l t = true)
    (h : treeW P l.toArray (NoPanic Q) t (fun w' => ∃ p : Regrown, w' = grow (redrawn W0 p.d) p.os) a { w with drawn := w.drawn + 1 }) : (Code.region id l.toArray true).wp P Q a w := by
  simp only [treeOk, Bool.and_eq_true, decide_eq_true_eq] at hB
  obtain ⟨⟨hs, hlen⟩, hmix⟩ := hB
  refine wp_region_noPanic (wp_region_held (S := fun w' => ∃ p : Regrown, w' = grow (redrawn W0 p.d) p.os) hm ?_)
  have H := tree_sound (md := .any) hs (fun d v c a w hh => hh) t _ (Array.replicate l.length false) a { w with drawn := w.drawn + 1 } hmix (regrown_of_below (hb.trans ((below_drawn w).mono hb.size))) h
  rw [hlen] at H
  simpa using H
/-- Some plain operations in a row, then the rest of the tree. -/
def plains (t : MixT) : List Nat → MixT
  | [] => t
  | k :: ks => .plain k (plains t ks)
theorem tree_seg {t : MixT} : ∀ (ks : List Nat) (seg : List Oper) (a : Act) (w : World), ks.map (fun k => ops[k]?) = seg.map some → wpQuiet P ops S (fun a' => treeW P ops Q t S a' w) seg a → treeW P ops Q (plains t ks) S a w
  | [], [], a, w, _, h => h
  | [], _ :: _, _, _, hk, _ => by simp at hk
  | _ :: _, [], _, _, hk, _ => by simp at hk
  | k :: ks, o :: seg, a, w, hk, h => by
    simp only [List.map_cons, List.cons.injEq] at hk
    obtain ⟨hk1, hk2⟩ := hk
    have h' : (if Region.wanted o (yielded ops a.tmps) then o.quiet P a S (wpQuiet P ops S (fun a' => treeW P ops Q t S a' w) seg) else wpQuiet P ops S (fun a' => treeW P ops Q t S a' w) seg (a.put o.dst undef)) := h
    show ∃ o, ops[k]? = some o ∧ (if Region.wanted o (yielded ops a.tmps) then o.quiet P a S (fun a' => treeW P ops Q (plains t ks) S a' w) else treeW P ops Q (plains t ks) S (a.put o.dst undef) w)
    refine ⟨o, hk1, ?_⟩
    split
    · rename_i hw
      rw [if_pos hw] at h'
      exact Oper.quiet_mono (fun a' hh => tree_seg ks seg a' w hk2 hh) h'
    · rename_i hw
      rw [if_neg hw] at h'
      exact tree_seg ks seg _ w hk2 h'
theorem tree_take {t t' : MixT} {a : Act} {w : World} (ks : List Nat) (seg : List Oper) (hm : t = plains t' ks) (hs : ks.map (fun k => ops[k]?) = seg.map some) (h : wpQuiet P ops S (fun a' => treeW P ops Q t' S a' w) seg a) : treeW P ops Q t S a w := by
  rw [hm]
  exact tree_seg ks seg a w hs h
/-- An operation comes up: the class of worlds is the drawn and grown ones of w'. -/
theorem step_new {k : Nat} {o : Oper} {a : Act} {W w : World} {K : (World → Prop) → Act → World → Prop} (ho : ops[k]? = some o) (hw : Region.wanted o (yielded ops a.tmps) = true) (h : o.wp P a w (fun a' w' => Below W.heap.size W w' ∧ K (fun v => ∃ p : Regrown, v = grow (redrawn w' p.d) p.os) a' w') Q) :
    stepW P ops Q k (fun v => ∃ p : Regrown, v = grow (redrawn W p.d) p.os) K a w := by
  refine ⟨o, ho, ?_⟩
  rw [if_pos hw]
  exact Oper.wp_mono (fun a' w' hh => ⟨_, class_self w', class_sub hh.1, hh.2⟩) h
theorem step_same {k : Nat} {o : Oper} {a : Act} {w : World} {K : (World → Prop) → Act → World → Prop} (ho : ops[k]? = some o) (hw : Region.wanted o (yielded ops a.tmps) = true) (h : o.wp P a w (fun a' w' => S w' ∧ K S a' w') Q) :
    stepW P ops Q k S K a w := by
  refine ⟨o, ho, ?_⟩
  rw [if_pos hw]
  exact Oper.wp_mono (fun a' w' hh => ⟨S, hh.1, fun _ h => h, hh.2⟩) h
theorem tree_bar {k : Nat} {t : MixT} {a : Act} {w : World} (h : stepW P ops Q k S (treeW P ops Q t) a w) : treeW P ops Q (.bar k t) S a w := h
theorem tree_fork {k f : Nat} {t u : MixT} {a : Act} {w : World} (h : stepW P ops Q k S (treeW P ops Q t) a w) (h' : stepW P ops Q f S (treeW P ops Q u) a w) : treeW P ops Q (.fork k t f u) S a w := ⟨h, h'⟩
theorem tree_end {a : Act} {w : World} (h : Q .normal a w) : treeW P ops (NoPanic Q) .done S a w := h
end
end Go.Proofs.YtakkgamhceignaaDoor
