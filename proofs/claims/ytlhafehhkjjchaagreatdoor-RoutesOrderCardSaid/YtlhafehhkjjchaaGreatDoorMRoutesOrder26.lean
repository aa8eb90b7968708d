/-
  Joined texts: LawRtOrd, OpenS2.
-/
import Derived.Test.YtlhafehhkjjchaaGreatDoorMRoutesOrder3
import Derived.Test.YtlhafehhkjjchaaGreatDoorMRoutesOrder7
import Derived.Test.YtlhafehhkjjchaaGreatDoorMRoutesOrder25
import Derived.Deep.RegionHeldLaw
import Derived.SizedLaws
/-
  The walk of the law RoutesOrder (written by wip/gen/genrtord.py).
-/
namespace Go.Proofs.YtlhafehhkjjchaaGreatDoor
open Go Go.RowKit Go.Lib Go.Sort

theorem blk6 (w : World) (a b c d e f : Obj) : let W := (((((w.alloc a).alloc b).alloc c).alloc d).alloc e).alloc f
    W.heap[w.heap.size]? = some a ∧ W.heap[w.heap.size + 1]? = some b ∧ W.heap[w.heap.size + 1 + 1]? = some c ∧ W.heap[w.heap.size + 1 + 1 + 1]? = some d ∧ W.heap[w.heap.size + 1 + 1 + 1 + 1]? = some e ∧ W.heap[w.heap.size + 1 + 1 + 1 + 1 + 1]? = some f := by
  have h5 := heap_alloc_new (((((w.alloc a).alloc b).alloc c).alloc d).alloc e) f
  have h4 := heap_alloc_new ((((w.alloc a).alloc b).alloc c).alloc d) e
  have h3 := heap_alloc_new (((w.alloc a).alloc b).alloc c) d
  have h2 := heap_alloc_new ((w.alloc a).alloc b) c
  have h1 := heap_alloc_new (w.alloc a) b
  have h0 := heap_alloc_new w a
  simp only [World.size_alloc] at h1 h2 h3 h4 h5
  refine ⟨?_, ?_, ?_, ?_, ?_, h5⟩
  · rw [Below.heap_alloc _ _ _ (by simp only [World.size_alloc]; omega), Below.heap_alloc _ _ _ (by simp only [World.size_alloc]; omega), Below.heap_alloc _ _ _ (by simp only [World.size_alloc]; omega), Below.heap_alloc _ _ _ (by simp only [World.size_alloc]; omega), Below.heap_alloc _ _ _ (by simp only [World.size_alloc]; omega)]; exact h0
  · rw [Below.heap_alloc _ _ _ (by simp only [World.size_alloc]; omega), Below.heap_alloc _ _ _ (by simp only [World.size_alloc]; omega), Below.heap_alloc _ _ _ (by simp only [World.size_alloc]; omega), Below.heap_alloc _ _ _ (by simp only [World.size_alloc]; omega)]; exact h1
  · rw [Below.heap_alloc _ _ _ (by simp only [World.size_alloc]; omega), Below.heap_alloc _ _ _ (by simp only [World.size_alloc]; omega), Below.heap_alloc _ _ _ (by simp only [World.size_alloc]; omega)]; exact h2
  · rw [Below.heap_alloc _ _ _ (by simp only [World.size_alloc]; omega), Below.heap_alloc _ _ _ (by simp only [World.size_alloc]; omega)]; exact h3
  · rw [Below.heap_alloc _ _ _ (by simp only [World.size_alloc]; omega)]; exact h4
theorem below6 (w : World) (a b c d e f : Obj) : Below w.heap.size w ((((((w.alloc a).alloc b).alloc c).alloc d).alloc e).alloc f) :=
  (((((below1 w a).alloc (by simp only [World.size_alloc]; omega) b).alloc (by simp only [World.size_alloc]; omega) c).alloc (by simp only [World.size_alloc]; omega) d).alloc (by simp only [World.size_alloc]; omega) e).alloc (by simp only [World.size_alloc]; omega) f
/-- The comparison of two routes, its answer told. -/
theorem rcmp_at {r s : RouteV} {k : Int} (h : cmpR r s = k) (W : World) : Calls Tryz.prog 5 #[.agg #[.int .u32 r.a, .int .i64 r.m, .int .u8 r.fr, .int .i64 r.di, .int .i64 r.me, .int .i64 r.ta, .string r.nm, .int .u32 r.ho, .bool r.dc], .agg #[.int .u32 s.a, .int .i64 s.m, .int .u8 s.fr, .int .i64 s.di, .int .i64 s.me, .int .i64 s.ta, .string s.nm, .int .u32 s.ho, .bool s.dc]] W fun e w' => e = .returned (.int .i64 k) ∧ Below W.heap.size W w' := by
  subst h
  exact (rcmp_any r s W).mono fun _ _ ⟨he, hg⟩ => ⟨he, hg.below⟩
/-- An append to a row of the call's own, as one step of a region that draws its order. -/
theorem step_append_row {P : Program} {ops : Array Oper} {o : Oper} {a : Act} {w : World} {K : Act → World → Prop} {Q : Exit → Act → World → Prop} {E : Prop}
    (hg : o.guard = none) (s x : Operand) (t : TypeId) (hop : o.op = Op.call { callee := Callee.builtin Builtin.append, args := #[s, x], argTypes := #[t, t] })
    (base : Nat) (e : TypeId) (i : TypeInfo) (z : Value) (size bytes : Nat) (h1 : P.underlying t = some (.slice e)) (h2 : P.info? e = some i) (h3 : i.zero = some z) (h4 : i.size = size) (h5 : i.bytes = bytes) (h6 : z.cells.size = size) (h7 : 0 < size)
    (v : Value) (n : Nat) (xs : List Value) (hs : a.eval s = v) (hown : w.ownsRow base e size v n xs)
    (ad : Addr) (m c : Nat) (news : List Value) (hx : a.eval x = .slice (some ad) m c) (hn : news.length = m * size) (hc : ∀ j u, news[j]? = some u → w.cell? (ad.add j) = some u) (h1c : ∀ u ∈ news, u.oneCell' = true)
    (b1 : n + m ≤ maxLen) (b2 : (n + m) * bytes ≤ 140737488355328) (hbase : base ≤ w.heap.size)
    (hK : ∀ v' w', w'.ownsRow base e size v' (n + m) (xs ++ news) → w.grownBy w' v.ownBlock → K (a.put o.dst v') w') :
    if Region.wanted o (yielded ops a.tmps) = true then Oper.wp P o a w K Q else E := by
  have hw : Region.wanted o (yielded ops a.tmps) = true := by simp [Region.wanted, hg]
  rw [if_pos hw]
  obtain ⟨v', w', hrun, r1, r2, _⟩ := run_append_own (P := P) w base t o.type e i z size bytes h1 h2 h3 h4 h5 h6 h7 v n xs hown ad m c news hn hc h1c b1 b2 hbase
  unfold Oper.wp
  simp [execOp, hop, resolve, invoke, builtin, hs, hx, hrun, Result.andThen]
  exact hK v' w' r1 r2
/-- What is known of an advert's lists. -/
def Lists (w : World) (r : AvV) (vp vo vl : Value) : Prop := (Rd w w.heap.size 1 vp r.pa.length (r.pa.map (Value.int .u32)) ∧ Rd w w.heap.size 1 vo r.co.length (r.co.map (Value.int .u32)) ∧ Rd w w.heap.size 1 vl r.cl.length (r.cl.map (Value.int .u32))) ∧ r.pa.length ≤ 4611686018427387904 ∧ r.co.length ≤ 4611686018427387904 ∧ r.cl.length ≤ 4611686018427387904
theorem Lists.up {w w' : World} {r : AvV} {vp vo vl : Value} (h : Lists w r vp vo vl) (hb : Below w.heap.size w w') : Lists w' r vp vo vl :=
  ⟨⟨rd_upR h.1.1 hb, rd_upR h.1.2.1 hb, rd_upR h.1.2.2 hb⟩, h.2⟩
theorem acmp_at {r s : AvV} {vp vo vl up uo ul : Value} {k : Int} (h : cmpA r s = k) (W : World) (hr : Lists W r vp vo vl) (hs : Lists W s up uo ul) : Calls Tryz.prog 6 #[.agg #[.int .u32 r.a, .int .i64 r.m, .int .u32 r.ho, .int .i64 r.pf, .int .i64 r.me, vp, vo, .int .u32 r.pe, .int .u32 r.id, .bool r.ex, .int .u32 r.og, vl, .int .i64 r.ss], .agg #[.int .u32 s.a, .int .i64 s.m, .int .u32 s.ho, .int .i64 s.pf, .int .i64 s.me, up, uo, .int .u32 s.pe, .int .u32 s.id, .bool s.ex, .int .u32 s.og, ul, .int .i64 s.ss]] W fun e w' => e = .returned (.int .i64 k) ∧ Below W.heap.size W w' := by
  subst h
  exact cmpAdvert_any r s vp vo vl up uo ul W hr.1.1 hr.1.2.1 hr.1.2.2 hs.1.1 hs.1.2.1 hs.1.2.2 hr.2.1 hr.2.2.1 hr.2.2.2
set_option maxRecDepth 100000 in
set_option maxHeartbeats 8000000 in
theorem lawRtOrder_any (a b c : RouteV) (L0 : List RouteV) (vl xp xo xl yp yo yl zp zo zl : Value) (x y z : AvV) (w : World) (hE : Env w) (hl : Rd w w.heap.size 9 vl L0.length (rvcells L0)) (hx : Lists w x xp xo xl) (hy : Lists w y yp yo yl) (hz : Lists w z zp zo zl) :
    Calls Tryz.prog 3 #[.agg #[.int .u32 a.a, .int .i64 a.m, .int .u8 a.fr, .int .i64 a.di, .int .i64 a.me, .int .i64 a.ta, .string a.nm, .int .u32 a.ho, .bool a.dc], .agg #[.int .u32 b.a, .int .i64 b.m, .int .u8 b.fr, .int .i64 b.di, .int .i64 b.me, .int .i64 b.ta, .string b.nm, .int .u32 b.ho, .bool b.dc], .agg #[.int .u32 c.a, .int .i64 c.m, .int .u8 c.fr, .int .i64 c.di, .int .i64 c.me, .int .i64 c.ta, .string c.nm, .int .u32 c.ho, .bool c.dc], vl, .agg #[.int .u32 x.a, .int .i64 x.m, .int .u32 x.ho, .int .i64 x.pf, .int .i64 x.me, xp, xo, .int .u32 x.pe, .int .u32 x.id, .bool x.ex, .int .u32 x.og, xl, .int .i64 x.ss], .agg #[.int .u32 y.a, .int .i64 y.m, .int .u32 y.ho, .int .i64 y.pf, .int .i64 y.me, yp, yo, .int .u32 y.pe, .int .u32 y.id, .bool y.ex, .int .u32 y.og, yl, .int .i64 y.ss], .agg #[.int .u32 z.a, .int .i64 z.m, .int .u32 z.ho, .int .i64 z.pf, .int .i64 z.me, zp, zo, .int .u32 z.pe, .int .u32 z.id, .bool z.ex, .int .u32 z.og, zl, .int .i64 z.ss]] w fun e w' => e = .returned (.bool true) ∧ Below w.heap.size w w' := by
  obtain ⟨i0, hi, hz0, hz1, hz2⟩ := info_parts Tryz.infoRoute
  obtain ⟨Al, cl, rfl, hcl⟩ := hl.form
  have hb0 := below6 w (.cells #[.int .u32 a.a, .int .i64 a.m, .int .u8 a.fr, .int .i64 a.di, .int .i64 a.me, .int .i64 a.ta, .string a.nm, .int .u32 a.ho, .bool a.dc] 27) (.cells #[.int .u32 b.a, .int .i64 b.m, .int .u8 b.fr, .int .i64 b.di, .int .i64 b.me, .int .i64 b.ta, .string b.nm, .int .u32 b.ho, .bool b.dc] 27) (.cells #[.int .u32 c.a, .int .i64 c.m, .int .u8 c.fr, .int .i64 c.di, .int .i64 c.me, .int .i64 c.ta, .string c.nm, .int .u32 c.ho, .bool c.dc] 27) (.cells #[.int .u32 x.a, .int .i64 x.m, .int .u32 x.ho, .int .i64 x.pf, .int .i64 x.me, xp, xo, .int .u32 x.pe, .int .u32 x.id, .bool x.ex, .int .u32 x.og, xl, .int .i64 x.ss] 32) (.cells #[.int .u32 y.a, .int .i64 y.m, .int .u32 y.ho, .int .i64 y.pf, .int .i64 y.me, yp, yo, .int .u32 y.pe, .int .u32 y.id, .bool y.ex, .int .u32 y.og, yl, .int .i64 y.ss] 32) (.cells #[.int .u32 z.a, .int .i64 z.m, .int .u32 z.ho, .int .i64 z.pf, .int .i64 z.me, zp, zo, .int .u32 z.pe, .int .u32 z.id, .bool z.ex, .int .u32 z.og, zl, .int .i64 z.ss] 32)
  obtain ⟨k0, k1, k2, k3, k4, k5⟩ := blk6 w (.cells #[.int .u32 a.a, .int .i64 a.m, .int .u8 a.fr, .int .i64 a.di, .int .i64 a.me, .int .i64 a.ta, .string a.nm, .int .u32 a.ho, .bool a.dc] 27) (.cells #[.int .u32 b.a, .int .i64 b.m, .int .u8 b.fr, .int .i64 b.di, .int .i64 b.me, .int .i64 b.ta, .string b.nm, .int .u32 b.ho, .bool b.dc] 27) (.cells #[.int .u32 c.a, .int .i64 c.m, .int .u8 c.fr, .int .i64 c.di, .int .i64 c.me, .int .i64 c.ta, .string c.nm, .int .u32 c.ho, .bool c.dc] 27) (.cells #[.int .u32 x.a, .int .i64 x.m, .int .u32 x.ho, .int .i64 x.pf, .int .i64 x.me, xp, xo, .int .u32 x.pe, .int .u32 x.id, .bool x.ex, .int .u32 x.og, xl, .int .i64 x.ss] 32) (.cells #[.int .u32 y.a, .int .i64 y.m, .int .u32 y.ho, .int .i64 y.pf, .int .i64 y.me, yp, yo, .int .u32 y.pe, .int .u32 y.id, .bool y.ex, .int .u32 y.og, yl, .int .i64 y.ss] 32) (.cells #[.int .u32 z.a, .int .i64 z.m, .int .u32 z.ho, .int .i64 z.pf, .int .i64 z.me, zp, zo, .int .u32 z.pe, .int .u32 z.id, .bool z.ex, .int .u32 z.og, zl, .int .i64 z.ss] 32)
  have hE0 := hE.below hb0
  have HL := Lib.hid hl
  have HX := Lib.hid hx
  have HY := Lib.hid hy
  have HZ := Lib.hid hz
  clear hl hx hy hz
  go_enter Tryz.func3, Tryz.ntmps3
  go_wp2_with fail
  generalize ((((((w.alloc (.cells #[.int .u32 a.a, .int .i64 a.m, .int .u8 a.fr, .int .i64 a.di, .int .i64 a.me, .int .i64 a.ta, .string a.nm, .int .u32 a.ho, .bool a.dc] 27)).alloc (.cells #[.int .u32 b.a, .int .i64 b.m, .int .u8 b.fr, .int .i64 b.di, .int .i64 b.me, .int .i64 b.ta, .string b.nm, .int .u32 b.ho, .bool b.dc] 27)).alloc (.cells #[.int .u32 c.a, .int .i64 c.m, .int .u8 c.fr, .int .i64 c.di, .int .i64 c.me, .int .i64 c.ta, .string c.nm, .int .u32 c.ho, .bool c.dc] 27)).alloc (.cells #[.int .u32 x.a, .int .i64 x.m, .int .u32 x.ho, .int .i64 x.pf, .int .i64 x.me, xp, xo, .int .u32 x.pe, .int .u32 x.id, .bool x.ex, .int .u32 x.og, xl, .int .i64 x.ss] 32)).alloc (.cells #[.int .u32 y.a, .int .i64 y.m, .int .u32 y.ho, .int .i64 y.pf, .int .i64 y.me, yp, yo, .int .u32 y.pe, .int .u32 y.id, .bool y.ex, .int .u32 y.og, yl, .int .i64 y.ss] 32)).alloc (.cells #[.int .u32 z.a, .int .i64 z.m, .int .u32 z.ho, .int .i64 z.pf, .int .i64 z.me, zp, zo, .int .u32 z.pe, .int .u32 z.id, .bool z.ex, .int .u32 z.og, zl, .int .i64 z.ss] 32)) = W0 at *
  refine (lawAwake08_any W0 hE0).mono ?_
  rintro e w1 ⟨rfl, hb1⟩
  have hbw := hb0.trans (hb1.mono hb0.size)
  have K0 := (hb1.block _ (lt_of_block k0)).trans k0
  have K1 := (hb1.block _ (lt_of_block k1)).trans k1
  have K2 := (hb1.block _ (lt_of_block k2)).trans k2
  have K3 := Lib.hid ((hb1.block _ (lt_of_block k3)).trans k3)
  have K4 := Lib.hid ((hb1.block _ (lt_of_block k4)).trans k4)
  have K5 := Lib.hid ((hb1.block _ (lt_of_block k5)).trans k5)
  have HB1 := Lib.hid hbw
  clear k0 k1 k2 k3 k4 k5 hb0 hb1 hE0 hbw
  go_upto_region 3 with fail
  go_cut [56] (fun s wx => s = .bool false ∧ Hid (Below w1.heap.size w1 wx))
  case first =>
    have a0 : w1.cell? ⟨w.heap.size, 0, none⟩ = some (.int .u32 a.a) := cell_of_row w1 _ 0 _ _ (0, 0) K0
    have A0 := cell_regrown a0
    have a1 : w1.cell? ⟨w.heap.size, 1, none⟩ = some (.int .i64 a.m) := cell_of_row w1 _ 1 _ _ (0, 0) K0
    have A1 := cell_regrown a1
    have a2 : w1.cell? ⟨w.heap.size, 2, none⟩ = some (.int .u8 a.fr) := cell_of_row w1 _ 2 _ _ (0, 0) K0
    have A2 := cell_regrown a2
    have a3 : w1.cell? ⟨w.heap.size, 3, none⟩ = some (.int .i64 a.di) := cell_of_row w1 _ 3 _ _ (0, 0) K0
    have A3 := cell_regrown a3
    have a4 : w1.cell? ⟨w.heap.size, 4, none⟩ = some (.int .i64 a.me) := cell_of_row w1 _ 4 _ _ (0, 0) K0
    have A4 := cell_regrown a4
    have a5 : w1.cell? ⟨w.heap.size, 5, none⟩ = some (.int .i64 a.ta) := cell_of_row w1 _ 5 _ _ (0, 0) K0
    have A5 := cell_regrown a5
    have a6 : w1.cell? ⟨w.heap.size, 6, none⟩ = some (.string a.nm) := cell_of_row w1 _ 6 _ _ (0, 0) K0
    have A6 := cell_regrown a6
    have a7 : w1.cell? ⟨w.heap.size, 7, none⟩ = some (.int .u32 a.ho) := cell_of_row w1 _ 7 _ _ (0, 0) K0
    have A7 := cell_regrown a7
    have a8 : w1.cell? ⟨w.heap.size, 8, none⟩ = some (.bool a.dc) := cell_of_row w1 _ 8 _ _ (0, 0) K0
    have A8 := cell_regrown a8
    have b0 : w1.cell? ⟨w.heap.size + 1, 0, none⟩ = some (.int .u32 b.a) := cell_of_row w1 _ 0 _ _ (0, 0) K1
    have B0 := cell_regrown b0
    have b1 : w1.cell? ⟨w.heap.size + 1, 1, none⟩ = some (.int .i64 b.m) := cell_of_row w1 _ 1 _ _ (0, 0) K1
    have B1 := cell_regrown b1
    have b2 : w1.cell? ⟨w.heap.size + 1, 2, none⟩ = some (.int .u8 b.fr) := cell_of_row w1 _ 2 _ _ (0, 0) K1
    have B2 := cell_regrown b2
    have b3 : w1.cell? ⟨w.heap.size + 1, 3, none⟩ = some (.int .i64 b.di) := cell_of_row w1 _ 3 _ _ (0, 0) K1
    have B3 := cell_regrown b3
    have b4 : w1.cell? ⟨w.heap.size + 1, 4, none⟩ = some (.int .i64 b.me) := cell_of_row w1 _ 4 _ _ (0, 0) K1
    have B4 := cell_regrown b4
    have b5 : w1.cell? ⟨w.heap.size + 1, 5, none⟩ = some (.int .i64 b.ta) := cell_of_row w1 _ 5 _ _ (0, 0) K1
    have B5 := cell_regrown b5
    have b6 : w1.cell? ⟨w.heap.size + 1, 6, none⟩ = some (.string b.nm) := cell_of_row w1 _ 6 _ _ (0, 0) K1
    have B6 := cell_regrown b6
    have b7 : w1.cell? ⟨w.heap.size + 1, 7, none⟩ = some (.int .u32 b.ho) := cell_of_row w1 _ 7 _ _ (0, 0) K1
    have B7 := cell_regrown b7
    have b8 : w1.cell? ⟨w.heap.size + 1, 8, none⟩ = some (.bool b.dc) := cell_of_row w1 _ 8 _ _ (0, 0) K1
    have B8 := cell_regrown b8
    have c0 : w1.cell? ⟨w.heap.size + 1 + 1, 0, none⟩ = some (.int .u32 c.a) := cell_of_row w1 _ 0 _ _ (0, 0) K2
    have C0 := cell_regrown c0
    have c1 : w1.cell? ⟨w.heap.size + 1 + 1, 1, none⟩ = some (.int .i64 c.m) := cell_of_row w1 _ 1 _ _ (0, 0) K2
    have C1 := cell_regrown c1
    have c2 : w1.cell? ⟨w.heap.size + 1 + 1, 2, none⟩ = some (.int .u8 c.fr) := cell_of_row w1 _ 2 _ _ (0, 0) K2
    have C2 := cell_regrown c2
    have c3 : w1.cell? ⟨w.heap.size + 1 + 1, 3, none⟩ = some (.int .i64 c.di) := cell_of_row w1 _ 3 _ _ (0, 0) K2
    have C3 := cell_regrown c3
    have c4 : w1.cell? ⟨w.heap.size + 1 + 1, 4, none⟩ = some (.int .i64 c.me) := cell_of_row w1 _ 4 _ _ (0, 0) K2
    have C4 := cell_regrown c4
    have c5 : w1.cell? ⟨w.heap.size + 1 + 1, 5, none⟩ = some (.int .i64 c.ta) := cell_of_row w1 _ 5 _ _ (0, 0) K2
    have C5 := cell_regrown c5
    have c6 : w1.cell? ⟨w.heap.size + 1 + 1, 6, none⟩ = some (.string c.nm) := cell_of_row w1 _ 6 _ _ (0, 0) K2
    have C6 := cell_regrown c6
    have c7 : w1.cell? ⟨w.heap.size + 1 + 1, 7, none⟩ = some (.int .u32 c.ho) := cell_of_row w1 _ 7 _ _ (0, 0) K2
    have C7 := cell_regrown c7
    have c8 : w1.cell? ⟨w.heap.size + 1 + 1, 8, none⟩ = some (.bool c.dc) := cell_of_row w1 _ 8 _ _ (0, 0) K2
    have C8 := cell_regrown c8
    clear a0 a1 a2 a3 a4 a5 a6 a7 a8 b0 b1 b2 b3 b4 b5 b6 b7 b8 c0 c1 c2 c3 c4 c5 c6 c7 c8
    clear K0 K1 K2
    have anti := ord3_R.anti b a
    rcases sg_R a b with hab | hab | hab
    · have hne : a ≠ b := fun h => by have := cmpR_zero.2 h; omega
      have heq := fun W => eqlR_not hne W
      clear hne
      by_cases hbc : cmpR b c < 0
      · have hac := ord3_R.lt (show cmpR a b < 0 by omega) (show cmpR b c ≤ 0 by omega)
        have sbc := sg_R b c
        have sac := sg_R a c
        have hbc1 : cmpR b c = -1 := by rcases sbc with h | h | h <;> omega
        have hac1 : cmpR a c = -1 := by rcases sac with h | h | h <;> omega
        have C0 := Lib.hid (fun W => rcmp_at (r := a) (s := b) (k := -1) (hab) W)
        have C1 := Lib.hid (fun W => rcmp_at (r := b) (s := a) (k := 1) (by omega) W)
        have C2 := Lib.hid (fun W => rcmp_at (r := b) (s := c) (k := -1) (hbc1) W)
        have C3 := Lib.hid (fun W => rcmp_at (r := a) (s := c) (k := -1) (hac1) W)
        clear hbc hac sbc sac hbc1 hac1 hab
        clear anti
        as_aux_lemma =>
          go_wp2
          refine wp_region_quiet_below (by kernel_rfl) (by kernel_rfl) ?_
          repeat (first | go_big_quiet_step (first | (go_at_call 5; with_reducible exact Calls.regrown_of (C0.out _)) | (go_at_call 5; with_reducible exact Calls.regrown_of (C1.out _)) | (go_at_call 5; with_reducible exact Calls.regrown_of (C2.out _)) | (go_at_call 5; with_reducible exact Calls.regrown_of (C3.out _))) | quiet_step (first | (go_at_call 5; with_reducible exact Calls.regrown_of (C0.out _)) | (go_at_call 5; with_reducible exact Calls.regrown_of (C1.out _)) | (go_at_call 5; with_reducible exact Calls.regrown_of (C2.out _)) | (go_at_call 5; with_reducible exact Calls.regrown_of (C3.out _))))
          refine wpQuiet_nil ?_
          intro _ hw'
          obtain ⟨⟨nq, osq⟩, hw''⟩ := hw'
          subst hw''
          have hq := below_regrown w1 nq osq
          go_wp2
          go_meet
          exact ⟨rfl, hq⟩
      · obtain ⟨k, hk⟩ : ∃ k, cmpR b c = k := ⟨_, rfl⟩
        have hk0 : decide (k < 0) = false := decide_eq_false (by omega)
        have C0 := Lib.hid (fun W => rcmp_at (r := a) (s := b) (k := -1) (hab) W)
        have C1 := Lib.hid (fun W => rcmp_at (r := b) (s := a) (k := 1) (by omega) W)
        have C2 := Lib.hid (fun W => rcmp_at (r := b) (s := c) (k := k) (hk) W)
        clear hbc hk hab
        clear anti
        as_aux_lemma =>
          go_wp2
          refine wp_region_quiet_below (by kernel_rfl) (by kernel_rfl) ?_
          repeat (first | go_big_quiet_step (first | (go_at_call 5; with_reducible exact Calls.regrown_of (C0.out _)) | (go_at_call 5; with_reducible exact Calls.regrown_of (C1.out _)) | (go_at_call 5; with_reducible exact Calls.regrown_of (C2.out _))) | quiet_step (first | (go_at_call 5; with_reducible exact Calls.regrown_of (C0.out _)) | (go_at_call 5; with_reducible exact Calls.regrown_of (C1.out _)) | (go_at_call 5; with_reducible exact Calls.regrown_of (C2.out _))))
          refine wpQuiet_nil ?_
          intro _ hw'
          obtain ⟨⟨nq, osq⟩, hw''⟩ := hw'
          subst hw''
          have hq := below_regrown w1 nq osq
          go_wp2
          go_meet
          exact ⟨rfl, hq⟩
    · have hne : a = b := cmpR_zero.1 hab
      have heq := fun W => eqlR_same hne W
      clear hne
      have C0 := Lib.hid (fun W => rcmp_at (r := a) (s := b) (k := 0) (hab) W)
      have C1 := Lib.hid (fun W => rcmp_at (r := b) (s := a) (k := 0) (by omega) W)
      clear hab
      clear anti
      as_aux_lemma =>
        go_wp2
        refine wp_region_quiet_below (by kernel_rfl) (by kernel_rfl) ?_
        repeat (first | go_big_quiet_step (first | (go_at_call 5; with_reducible exact Calls.regrown_of (C0.out _)) | (go_at_call 5; with_reducible exact Calls.regrown_of (C1.out _))) | quiet_step (first | (go_at_call 5; with_reducible exact Calls.regrown_of (C0.out _)) | (go_at_call 5; with_reducible exact Calls.regrown_of (C1.out _))))
        refine wpQuiet_nil ?_
        intro _ hw'
        obtain ⟨⟨nq, osq⟩, hw''⟩ := hw'
        subst hw''
        have hq := below_regrown w1 nq osq
        go_wp2
        go_meet
        exact ⟨rfl, hq⟩
    · have hne : a ≠ b := fun h => by have := cmpR_zero.2 h; omega
      have heq := fun W => eqlR_not hne W
      clear hne
      have C0 := Lib.hid (fun W => rcmp_at (r := a) (s := b) (k := 1) (hab) W)
      have C1 := Lib.hid (fun W => rcmp_at (r := b) (s := a) (k := -1) (by omega) W)
      clear hab
      clear anti
      as_aux_lemma =>
        go_wp2
        refine wp_region_quiet_below (by kernel_rfl) (by kernel_rfl) ?_
        repeat (first | go_big_quiet_step (first | (go_at_call 5; with_reducible exact Calls.regrown_of (C0.out _)) | (go_at_call 5; with_reducible exact Calls.regrown_of (C1.out _))) | quiet_step (first | (go_at_call 5; with_reducible exact Calls.regrown_of (C0.out _)) | (go_at_call 5; with_reducible exact Calls.regrown_of (C1.out _))))
        refine wpQuiet_nil ?_
        intro _ hw'
        obtain ⟨⟨nq, osq⟩, hw''⟩ := hw'
        subst hw''
        have hq := below_regrown w1 nq osq
        go_wp2
        go_meet
        exact ⟨rfl, hq⟩
  case rest =>
    obtain ⟨rfl, HC1⟩ := hcut
    have hbc := HB1.out.trans (HC1.out.mono HB1.out.size)
    have K3' := (HC1.out.block _ (lt_of_block K3.out)).trans K3.out
    have K4' := (HC1.out.block _ (lt_of_block K4.out)).trans K4.out
    have K5' := (HC1.out.block _ (lt_of_block K5.out)).trans K5.out
    have HBC := Lib.hid hbc
    clear K3 K4 K5 HC1 HB1 hbc K0 K1 K2
    go_upto_region 5 with fail
    go_cut [88] (fun s wx => s = .bool false ∧ Hid (Below w.heap.size w wx))
    case first =>
      have x0 : wc.cell? ⟨w.heap.size + 1 + 1 + 1, 0, none⟩ = some (.int .u32 x.a) := cell_of_row wc _ 0 _ _ (0, 0) K3'
      have X0 := cell_regrown x0
      have x1 : wc.cell? ⟨w.heap.size + 1 + 1 + 1, 1, none⟩ = some (.int .i64 x.m) := cell_of_row wc _ 1 _ _ (0, 0) K3'
      have X1 := cell_regrown x1
      have x2 : wc.cell? ⟨w.heap.size + 1 + 1 + 1, 2, none⟩ = some (.int .u32 x.ho) := cell_of_row wc _ 2 _ _ (0, 0) K3'
      have X2 := cell_regrown x2
      have x3 : wc.cell? ⟨w.heap.size + 1 + 1 + 1, 3, none⟩ = some (.int .i64 x.pf) := cell_of_row wc _ 3 _ _ (0, 0) K3'
      have X3 := cell_regrown x3
      have x4 : wc.cell? ⟨w.heap.size + 1 + 1 + 1, 4, none⟩ = some (.int .i64 x.me) := cell_of_row wc _ 4 _ _ (0, 0) K3'
      have X4 := cell_regrown x4
      have x5 : wc.cell? ⟨w.heap.size + 1 + 1 + 1, 5, none⟩ = some (xp) := cell_of_row wc _ 5 _ _ (0, 0) K3'
      have X5 := cell_regrown x5
      have x6 : wc.cell? ⟨w.heap.size + 1 + 1 + 1, 6, none⟩ = some (xo) := cell_of_row wc _ 6 _ _ (0, 0) K3'
      have X6 := cell_regrown x6
      have x7 : wc.cell? ⟨w.heap.size + 1 + 1 + 1, 7, none⟩ = some (.int .u32 x.pe) := cell_of_row wc _ 7 _ _ (0, 0) K3'
      have X7 := cell_regrown x7
      have x8 : wc.cell? ⟨w.heap.size + 1 + 1 + 1, 8, none⟩ = some (.int .u32 x.id) := cell_of_row wc _ 8 _ _ (0, 0) K3'
      have X8 := cell_regrown x8
      have x9 : wc.cell? ⟨w.heap.size + 1 + 1 + 1, 9, none⟩ = some (.bool x.ex) := cell_of_row wc _ 9 _ _ (0, 0) K3'
      have X9 := cell_regrown x9
      have x10 : wc.cell? ⟨w.heap.size + 1 + 1 + 1, 10, none⟩ = some (.int .u32 x.og) := cell_of_row wc _ 10 _ _ (0, 0) K3'
      have X10 := cell_regrown x10
      have x11 : wc.cell? ⟨w.heap.size + 1 + 1 + 1, 11, none⟩ = some (xl) := cell_of_row wc _ 11 _ _ (0, 0) K3'
      have X11 := cell_regrown x11
      have x12 : wc.cell? ⟨w.heap.size + 1 + 1 + 1, 12, none⟩ = some (.int .i64 x.ss) := cell_of_row wc _ 12 _ _ (0, 0) K3'
      have X12 := cell_regrown x12
      have y0 : wc.cell? ⟨w.heap.size + 1 + 1 + 1 + 1, 0, none⟩ = some (.int .u32 y.a) := cell_of_row wc _ 0 _ _ (0, 0) K4'
      have Y0 := cell_regrown y0
      have y1 : wc.cell? ⟨w.heap.size + 1 + 1 + 1 + 1, 1, none⟩ = some (.int .i64 y.m) := cell_of_row wc _ 1 _ _ (0, 0) K4'
      have Y1 := cell_regrown y1
      have y2 : wc.cell? ⟨w.heap.size + 1 + 1 + 1 + 1, 2, none⟩ = some (.int .u32 y.ho) := cell_of_row wc _ 2 _ _ (0, 0) K4'
      have Y2 := cell_regrown y2
      have y3 : wc.cell? ⟨w.heap.size + 1 + 1 + 1 + 1, 3, none⟩ = some (.int .i64 y.pf) := cell_of_row wc _ 3 _ _ (0, 0) K4'
      have Y3 := cell_regrown y3
      have y4 : wc.cell? ⟨w.heap.size + 1 + 1 + 1 + 1, 4, none⟩ = some (.int .i64 y.me) := cell_of_row wc _ 4 _ _ (0, 0) K4'
      have Y4 := cell_regrown y4
      have y5 : wc.cell? ⟨w.heap.size + 1 + 1 + 1 + 1, 5, none⟩ = some (yp) := cell_of_row wc _ 5 _ _ (0, 0) K4'
      have Y5 := cell_regrown y5
      have y6 : wc.cell? ⟨w.heap.size + 1 + 1 + 1 + 1, 6, none⟩ = some (yo) := cell_of_row wc _ 6 _ _ (0, 0) K4'
      have Y6 := cell_regrown y6
      have y7 : wc.cell? ⟨w.heap.size + 1 + 1 + 1 + 1, 7, none⟩ = some (.int .u32 y.pe) := cell_of_row wc _ 7 _ _ (0, 0) K4'
      have Y7 := cell_regrown y7
      have y8 : wc.cell? ⟨w.heap.size + 1 + 1 + 1 + 1, 8, none⟩ = some (.int .u32 y.id) := cell_of_row wc _ 8 _ _ (0, 0) K4'
      have Y8 := cell_regrown y8
      have y9 : wc.cell? ⟨w.heap.size + 1 + 1 + 1 + 1, 9, none⟩ = some (.bool y.ex) := cell_of_row wc _ 9 _ _ (0, 0) K4'
      have Y9 := cell_regrown y9
      have y10 : wc.cell? ⟨w.heap.size + 1 + 1 + 1 + 1, 10, none⟩ = some (.int .u32 y.og) := cell_of_row wc _ 10 _ _ (0, 0) K4'
      have Y10 := cell_regrown y10
      have y11 : wc.cell? ⟨w.heap.size + 1 + 1 + 1 + 1, 11, none⟩ = some (yl) := cell_of_row wc _ 11 _ _ (0, 0) K4'
      have Y11 := cell_regrown y11
      have y12 : wc.cell? ⟨w.heap.size + 1 + 1 + 1 + 1, 12, none⟩ = some (.int .i64 y.ss) := cell_of_row wc _ 12 _ _ (0, 0) K4'
      have Y12 := cell_regrown y12
      have z0 : wc.cell? ⟨w.heap.size + 1 + 1 + 1 + 1 + 1, 0, none⟩ = some (.int .u32 z.a) := cell_of_row wc _ 0 _ _ (0, 0) K5'
      have Z0 := cell_regrown z0
      have z1 : wc.cell? ⟨w.heap.size + 1 + 1 + 1 + 1 + 1, 1, none⟩ = some (.int .i64 z.m) := cell_of_row wc _ 1 _ _ (0, 0) K5'
      have Z1 := cell_regrown z1
      have z2 : wc.cell? ⟨w.heap.size + 1 + 1 + 1 + 1 + 1, 2, none⟩ = some (.int .u32 z.ho) := cell_of_row wc _ 2 _ _ (0, 0) K5'
      have Z2 := cell_regrown z2
      have z3 : wc.cell? ⟨w.heap.size + 1 + 1 + 1 + 1 + 1, 3, none⟩ = some (.int .i64 z.pf) := cell_of_row wc _ 3 _ _ (0, 0) K5'
      have Z3 := cell_regrown z3
      have z4 : wc.cell? ⟨w.heap.size + 1 + 1 + 1 + 1 + 1, 4, none⟩ = some (.int .i64 z.me) := cell_of_row wc _ 4 _ _ (0, 0) K5'
      have Z4 := cell_regrown z4
      have z5 : wc.cell? ⟨w.heap.size + 1 + 1 + 1 + 1 + 1, 5, none⟩ = some (zp) := cell_of_row wc _ 5 _ _ (0, 0) K5'
      have Z5 := cell_regrown z5
      have z6 : wc.cell? ⟨w.heap.size + 1 + 1 + 1 + 1 + 1, 6, none⟩ = some (zo) := cell_of_row wc _ 6 _ _ (0, 0) K5'
      have Z6 := cell_regrown z6
      have z7 : wc.cell? ⟨w.heap.size + 1 + 1 + 1 + 1 + 1, 7, none⟩ = some (.int .u32 z.pe) := cell_of_row wc _ 7 _ _ (0, 0) K5'
      have Z7 := cell_regrown z7
      have z8 : wc.cell? ⟨w.heap.size + 1 + 1 + 1 + 1 + 1, 8, none⟩ = some (.int .u32 z.id) := cell_of_row wc _ 8 _ _ (0, 0) K5'
      have Z8 := cell_regrown z8
      have z9 : wc.cell? ⟨w.heap.size + 1 + 1 + 1 + 1 + 1, 9, none⟩ = some (.bool z.ex) := cell_of_row wc _ 9 _ _ (0, 0) K5'
      have Z9 := cell_regrown z9
      have z10 : wc.cell? ⟨w.heap.size + 1 + 1 + 1 + 1 + 1, 10, none⟩ = some (.int .u32 z.og) := cell_of_row wc _ 10 _ _ (0, 0) K5'
      have Z10 := cell_regrown z10
      have z11 : wc.cell? ⟨w.heap.size + 1 + 1 + 1 + 1 + 1, 11, none⟩ = some (zl) := cell_of_row wc _ 11 _ _ (0, 0) K5'
      have Z11 := cell_regrown z11
      have z12 : wc.cell? ⟨w.heap.size + 1 + 1 + 1 + 1 + 1, 12, none⟩ = some (.int .i64 z.ss) := cell_of_row wc _ 12 _ _ (0, 0) K5'
      have Z12 := cell_regrown z12
      clear x0 x1 x2 x3 x4 x5 x6 x7 x8 x9 x10 x11 x12 y0 y1 y2 y3 y4 y5 y6 y7 y8 y9 y10 y11 y12 z0 z1 z2 z3 z4 z5 z6 z7 z8 z9 z10 z11 z12
      clear K3' K4' K5'
      have hup : ∀ d os, Below w.heap.size w (grow (redrawn wc d) os) := fun d os => HBC.out.trans ((below_regrown wc d os).mono HBC.out.size)
      have LX := Lib.hid (fun d os => HX.out.up (hup d os))
      have LY := Lib.hid (fun d os => HY.out.up (hup d os))
      have LZ := Lib.hid (fun d os => HZ.out.up (hup d os))
      clear hup
      have anti := ord3_A.anti y x
      have self := ord3_A.self x
      rcases sg_A x y with hab | hab | hab
      · by_cases hbc : cmpA y z < 0
        · have hac := ord3_A.lt (show cmpA x y < 0 by omega) (show cmpA y z ≤ 0 by omega)
          have sbc := sg_A y z
          have sac := sg_A x z
          have hbc1 : cmpA y z = -1 := by rcases sbc with h | h | h <;> omega
          have hac1 : cmpA x z = -1 := by rcases sac with h | h | h <;> omega
          have C0 := Lib.hid (fun d os => acmp_at (r := x) (s := y) (k := -1) (hab) (grow (redrawn wc d) os) (LX.out d os) (LY.out d os))
          have C1 := Lib.hid (fun d os => acmp_at (r := y) (s := x) (k := 1) (by omega) (grow (redrawn wc d) os) (LY.out d os) (LX.out d os))
          have C2 := Lib.hid (fun d os => acmp_at (r := x) (s := x) (k := 0) (self) (grow (redrawn wc d) os) (LX.out d os) (LX.out d os))
          have C3 := Lib.hid (fun d os => acmp_at (r := y) (s := z) (k := -1) (hbc1) (grow (redrawn wc d) os) (LY.out d os) (LZ.out d os))
          have C4 := Lib.hid (fun d os => acmp_at (r := x) (s := z) (k := -1) (hac1) (grow (redrawn wc d) os) (LX.out d os) (LZ.out d os))
          clear hbc hac sbc sac hbc1 hac1 hab
          clear anti self LX LY LZ
          as_aux_lemma =>
            go_wp2
            refine wp_region_quiet_below (by kernel_rfl) (by kernel_rfl) ?_
            repeat (first | go_big_quiet_step (first | (go_at_call 6; with_reducible exact Calls.regrown_of (C0.out _ _)) | (go_at_call 6; with_reducible exact Calls.regrown_of (C1.out _ _)) | (go_at_call 6; with_reducible exact Calls.regrown_of (C2.out _ _)) | (go_at_call 6; with_reducible exact Calls.regrown_of (C3.out _ _)) | (go_at_call 6; with_reducible exact Calls.regrown_of (C4.out _ _))) | quiet_step (first | (go_at_call 6; with_reducible exact Calls.regrown_of (C0.out _ _)) | (go_at_call 6; with_reducible exact Calls.regrown_of (C1.out _ _)) | (go_at_call 6; with_reducible exact Calls.regrown_of (C2.out _ _)) | (go_at_call 6; with_reducible exact Calls.regrown_of (C3.out _ _)) | (go_at_call 6; with_reducible exact Calls.regrown_of (C4.out _ _))))
            refine wpQuiet_nil ?_
            intro _ hw'
            obtain ⟨⟨nq, osq⟩, hw''⟩ := hw'
            subst hw''
            have hq := below_regrown wc nq osq
            go_wp2
            go_meet
            exact ⟨rfl, HBC.out.trans (hq.mono HBC.out.size)⟩
        · obtain ⟨k, hk⟩ : ∃ k, cmpA y z = k := ⟨_, rfl⟩
          have hk0 : decide (k < 0) = false := decide_eq_false (by omega)
          have C0 := Lib.hid (fun d os => acmp_at (r := x) (s := y) (k := -1) (hab) (grow (redrawn wc d) os) (LX.out d os) (LY.out d os))
          have C1 := Lib.hid (fun d os => acmp_at (r := y) (s := x) (k := 1) (by omega) (grow (redrawn wc d) os) (LY.out d os) (LX.out d os))
          have C2 := Lib.hid (fun d os => acmp_at (r := x) (s := x) (k := 0) (self) (grow (redrawn wc d) os) (LX.out d os) (LX.out d os))
          have C3 := Lib.hid (fun d os => acmp_at (r := y) (s := z) (k := k) (hk) (grow (redrawn wc d) os) (LY.out d os) (LZ.out d os))
          clear hbc hk hab
          clear anti self LX LY LZ
          as_aux_lemma =>
            go_wp2
            refine wp_region_quiet_below (by kernel_rfl) (by kernel_rfl) ?_
            repeat (first | go_big_quiet_step (first | (go_at_call 6; with_reducible exact Calls.regrown_of (C0.out _ _)) | (go_at_call 6; with_reducible exact Calls.regrown_of (C1.out _ _)) | (go_at_call 6; with_reducible exact Calls.regrown_of (C2.out _ _)) | (go_at_call 6; with_reducible exact Calls.regrown_of (C3.out _ _))) | quiet_step (first | (go_at_call 6; with_reducible exact Calls.regrown_of (C0.out _ _)) | (go_at_call 6; with_reducible exact Calls.regrown_of (C1.out _ _)) | (go_at_call 6; with_reducible exact Calls.regrown_of (C2.out _ _)) | (go_at_call 6; with_reducible exact Calls.regrown_of (C3.out _ _))))
            refine wpQuiet_nil ?_
            intro _ hw'
            obtain ⟨⟨nq, osq⟩, hw''⟩ := hw'
            subst hw''
            have hq := below_regrown wc nq osq
            go_wp2
            go_meet
            exact ⟨rfl, HBC.out.trans (hq.mono HBC.out.size)⟩
      · skip
        have C0 := Lib.hid (fun d os => acmp_at (r := x) (s := y) (k := 0) (hab) (grow (redrawn wc d) os) (LX.out d os) (LY.out d os))
        have C1 := Lib.hid (fun d os => acmp_at (r := y) (s := x) (k := 0) (by omega) (grow (redrawn wc d) os) (LY.out d os) (LX.out d os))
        have C2 := Lib.hid (fun d os => acmp_at (r := x) (s := x) (k := 0) (self) (grow (redrawn wc d) os) (LX.out d os) (LX.out d os))
        clear hab
        clear anti self LX LY LZ
        as_aux_lemma =>
          go_wp2
          refine wp_region_quiet_below (by kernel_rfl) (by kernel_rfl) ?_
          repeat (first | go_big_quiet_step (first | (go_at_call 6; with_reducible exact Calls.regrown_of (C0.out _ _)) | (go_at_call 6; with_reducible exact Calls.regrown_of (C1.out _ _)) | (go_at_call 6; with_reducible exact Calls.regrown_of (C2.out _ _))) | quiet_step (first | (go_at_call 6; with_reducible exact Calls.regrown_of (C0.out _ _)) | (go_at_call 6; with_reducible exact Calls.regrown_of (C1.out _ _)) | (go_at_call 6; with_reducible exact Calls.regrown_of (C2.out _ _))))
          refine wpQuiet_nil ?_
          intro _ hw'
          obtain ⟨⟨nq, osq⟩, hw''⟩ := hw'
          subst hw''
          have hq := below_regrown wc nq osq
          go_wp2
          go_meet
          exact ⟨rfl, HBC.out.trans (hq.mono HBC.out.size)⟩
      · skip
        have C0 := Lib.hid (fun d os => acmp_at (r := x) (s := y) (k := 1) (hab) (grow (redrawn wc d) os) (LX.out d os) (LY.out d os))
        have C1 := Lib.hid (fun d os => acmp_at (r := y) (s := x) (k := -1) (by omega) (grow (redrawn wc d) os) (LY.out d os) (LX.out d os))
        have C2 := Lib.hid (fun d os => acmp_at (r := x) (s := x) (k := 0) (self) (grow (redrawn wc d) os) (LX.out d os) (LX.out d os))
        clear hab
        clear anti self LX LY LZ
        as_aux_lemma =>
          go_wp2
          refine wp_region_quiet_below (by kernel_rfl) (by kernel_rfl) ?_
          repeat (first | go_big_quiet_step (first | (go_at_call 6; with_reducible exact Calls.regrown_of (C0.out _ _)) | (go_at_call 6; with_reducible exact Calls.regrown_of (C1.out _ _)) | (go_at_call 6; with_reducible exact Calls.regrown_of (C2.out _ _))) | quiet_step (first | (go_at_call 6; with_reducible exact Calls.regrown_of (C0.out _ _)) | (go_at_call 6; with_reducible exact Calls.regrown_of (C1.out _ _)) | (go_at_call 6; with_reducible exact Calls.regrown_of (C2.out _ _))))
          refine wpQuiet_nil ?_
          intro _ hw'
          obtain ⟨⟨nq, osq⟩, hw''⟩ := hw'
          subst hw''
          have hq := below_regrown wc nq osq
          go_wp2
          go_meet
          exact ⟨rfl, HBC.out.trans (hq.mono HBC.out.size)⟩
    case rest =>
      obtain ⟨rfl, HB5⟩ := hcut
      clear K3' K4' K5' HBC HX HY HZ
      go_upto_region 7 with fail
      go_cut [3] (fun s3 wx => ∃ n, s3 = .slice Al n cl ∧ n ≤ L0.length ∧ n ≤ 100 ∧ Hid (Below w.heap.size w wx))
      case first =>
        have g1 : min (L0.length : Int) 100 ≤ (cl : Int) := by omega
        have g3 : (0 : Int) ≤ min (L0.length : Int) 100 := by omega
        go_wp2
        go_meet
        exact ⟨(min (L0.length : Int) 100).toNat, rfl, by omega, by omega, HB5.out⟩
      case rest =>
        obtain ⟨n, rfl, hnl, hn, HB6⟩ := hcut
        clear HB5
        obtain ⟨L, hL⟩ : ∃ L, L = L0.take n := ⟨_, rfl⟩
        have hLn : L.length = n := by rw [hL, List.length_take]; omega
        have hrl := rd_takeR HL.out rfl hnl
        rw [← hL] at hrl
        subst hLn
        have HLL := Lib.hid hrl
        clear hrl hL HL hcl
        go_wp2_with fail
        go_loopw [15, 16] (fun v t wx => ∃ (q : Nat) (D : List RouteV) (zt : Int), t = .int .i64 zt ∧ zt = (q : Int) - 1 ∧ q ≤ L.length ∧ Hid (D.length = 2 * (L.length - q)) ∧ Hid (∀ x, x ∈ D → x ∈ L) ∧ Hid (∀ (j : Nat) x, q ≤ j → L[j]? = some x → x ∈ D) ∧ Hid (wx.ownsRow w.heap.size 27 9 v D.length (rvcells D)) ∧ Hid (Below w.heap.size w wx)) (fun _ t _ => (intOf t + 1).toNat)
        case atStart => exact ⟨L.length, [], _, rfl, rfl, Nat.le_refl _, (by simp : ([] : List RouteV).length = 2 * (L.length - L.length)), (fun x hx => by cases hx), (fun j x hj hx => by have := (List.getElem?_eq_some_iff.1 hx).1; omega), World.ownsRow_nil _ _ _ _, HB6.out⟩
        case round =>
          clear HB6
          obtain ⟨q, D, zt, rfl, hzt, hq, HD, HDL, HLD, HO, HB⟩ := hrel
          have hDl : D.length ≤ 200 := by have := HD.out; omega
          rename World => wr
          rcases q with _ | q
          · have hzn : ¬ (0 : Int) ≤ zt := by omega
            obtain ⟨Ad, cd, rfl, _⟩ := owns_form HO.out
            clear hzt
            go_wp2_with fail
            refine (sortR_any L _ wr ((HLL.out.below HB.out).mono HB.out.size) (by omega)).mono ?_
            rintro e p1 ⟨v, S, rfl, hS, hSl, own1, pb1⟩
            obtain ⟨A1', c1', rfl, hA1⟩ := owns_form own1
            go_wp2_with fail
            refine (sortR_any D _ p1 (rd_upR (Rd.of_own HO.out) pb1) (by omega)).mono ?_
            rintro e p2 ⟨v, S2, rfl, hS2, hSl2, own2, pb2⟩
            have hmem : ∀ y, y ∈ D ↔ y ∈ L := fun y => ⟨HDL.out y, fun hy => by obtain ⟨j, hj, e⟩ := List.getElem_of_mem hy; exact HLD.out j y (Nat.zero_le _) (by rw [← e]; exact List.getElem?_eq_getElem hj)⟩
            obtain rfl : S2 = S := Sorted.eq (l := L) ⟨hS2.1, fun y => (hS2.2 y).trans (hmem y)⟩ hS
            obtain ⟨A2', c2', rfl, _⟩ := owns_form own2
            have c3 := refSameR_any S2 S2 _ _ p2 (rd_upR (Rd.of_own own1) pb2) (Rd.of_own own2) (by omega)
            rw [eqRB_self] at c3
            go_wp2_with fail
            refine c3.mono ?_
            rintro e p3 ⟨rfl, pb3⟩
            have hb13 := below_call pb2 pb3
            have hrs := rd_upR (Rd.of_own own1) hb13
            have hb3 := HB.out.trans ((below_call pb1 hb13).mono HB.out.size)
            have hUp := hS.1
            have hS200 : S2.length ≤ 200 := by omega
            have HRS := Lib.hid hrs
            have HB3 := Lib.hid hb3
            have HUP := Lib.hid hUp
            clear c3 hmem hrs hb3 hUp hb13 own1 own2 pb1 pb2 pb3 HO HB HDL HLD hS hS2 HD hDl HLL hSl hSl2
            clear p1 p2
            go_wp2_with fail
            go_loopw [18] (fun t wx => ∃ k : Nat, t = .int .i64 k ∧ 1 ≤ k ∧ Hid (Below p3.heap.size p3 wx)) (fun t _ => S2.length + 1 - (intOf t).toNat)
            case atStart => exact ⟨1, rfl, by omega, Below.refl _ _⟩
            case round =>
              obtain ⟨k, rfl, hk1, HN⟩ := hrel
              rename World => wx
              by_cases hlt : k < S2.length
              · have hI : (k : Int) < (S2.length : Int) := by omega
                obtain ⟨r1, hr1⟩ : ∃ r1, S2[k - 1]? = some r1 := ⟨_, List.getElem?_eq_getElem (by omega)⟩
                obtain ⟨r2, hr2⟩ : ∃ r2, S2[k]? = some r2 := ⟨_, List.getElem?_eq_getElem hlt⟩
                have hc : cmpR r1 r2 < 0 := by
                  have h := List.pairwise_iff_getElem.1 HUP.out (k - 1) k (by omega) hlt (by omega)
                  rw [(List.getElem?_eq_some_iff.1 hr1).2, (List.getElem?_eq_some_iff.1 hr2).2] at h
                  exact h
                have hc1 : cmpR r1 r2 = -1 := by rcases sg_R r1 r2 with h | h | h <;> omega
                obtain ⟨b, off, c', hv, _, hbB, hcell⟩ := (HRS.out.below HN.out).posAt (by omega)
                injection hv with hv1 _ hv3
                subst hv1 hv3
                have f0 : wx.cell? ⟨b, off + (k - 1) * 9, none⟩ = some (.int .u32 r1.a) := hcell (k - 1) 0 _ (rvcell hr1 rfl)
                have F0 := cell_regrown f0
                have f1 : wx.cell? ⟨b, off + (k - 1) * 9 + 1, none⟩ = some (.int .i64 r1.m) := hcell (k - 1) 1 _ (rvcell hr1 rfl)
                have F1 := cell_regrown f1
                have f2 : wx.cell? ⟨b, off + (k - 1) * 9 + 2, none⟩ = some (.int .u8 r1.fr) := hcell (k - 1) 2 _ (rvcell hr1 rfl)
                have F2 := cell_regrown f2
                have f3 : wx.cell? ⟨b, off + (k - 1) * 9 + 3, none⟩ = some (.int .i64 r1.di) := hcell (k - 1) 3 _ (rvcell hr1 rfl)
                have F3 := cell_regrown f3
                have f4 : wx.cell? ⟨b, off + (k - 1) * 9 + 4, none⟩ = some (.int .i64 r1.me) := hcell (k - 1) 4 _ (rvcell hr1 rfl)
                have F4 := cell_regrown f4
                have f5 : wx.cell? ⟨b, off + (k - 1) * 9 + 5, none⟩ = some (.int .i64 r1.ta) := hcell (k - 1) 5 _ (rvcell hr1 rfl)
                have F5 := cell_regrown f5
                have f6 : wx.cell? ⟨b, off + (k - 1) * 9 + 6, none⟩ = some (.string r1.nm) := hcell (k - 1) 6 _ (rvcell hr1 rfl)
                have F6 := cell_regrown f6
                have f7 : wx.cell? ⟨b, off + (k - 1) * 9 + 7, none⟩ = some (.int .u32 r1.ho) := hcell (k - 1) 7 _ (rvcell hr1 rfl)
                have F7 := cell_regrown f7
                have f8 : wx.cell? ⟨b, off + (k - 1) * 9 + 8, none⟩ = some (.bool r1.dc) := hcell (k - 1) 8 _ (rvcell hr1 rfl)
                have F8 := cell_regrown f8
                have g0 : wx.cell? ⟨b, off + k * 9, none⟩ = some (.int .u32 r2.a) := hcell k 0 _ (rvcell hr2 rfl)
                have G0 := cell_regrown g0
                have g1 : wx.cell? ⟨b, off + k * 9 + 1, none⟩ = some (.int .i64 r2.m) := hcell k 1 _ (rvcell hr2 rfl)
                have G1 := cell_regrown g1
                have g2 : wx.cell? ⟨b, off + k * 9 + 2, none⟩ = some (.int .u8 r2.fr) := hcell k 2 _ (rvcell hr2 rfl)
                have G2 := cell_regrown g2
                have g3 : wx.cell? ⟨b, off + k * 9 + 3, none⟩ = some (.int .i64 r2.di) := hcell k 3 _ (rvcell hr2 rfl)
                have G3 := cell_regrown g3
                have g4 : wx.cell? ⟨b, off + k * 9 + 4, none⟩ = some (.int .i64 r2.me) := hcell k 4 _ (rvcell hr2 rfl)
                have G4 := cell_regrown g4
                have g5 : wx.cell? ⟨b, off + k * 9 + 5, none⟩ = some (.int .i64 r2.ta) := hcell k 5 _ (rvcell hr2 rfl)
                have G5 := cell_regrown g5
                have g6 : wx.cell? ⟨b, off + k * 9 + 6, none⟩ = some (.string r2.nm) := hcell k 6 _ (rvcell hr2 rfl)
                have G6 := cell_regrown g6
                have g7 : wx.cell? ⟨b, off + k * 9 + 7, none⟩ = some (.int .u32 r2.ho) := hcell k 7 _ (rvcell hr2 rfl)
                have G7 := cell_regrown g7
                have g8 : wx.cell? ⟨b, off + k * 9 + 8, none⟩ = some (.bool r2.dc) := hcell k 8 _ (rvcell hr2 rfl)
                have G8 := cell_regrown g8
                clear f0 g0 f1 g1 f2 g2 f3 g3 f4 g4 f5 g5 f6 g6 f7 g7 f8 g8
                have C1 := Lib.hid (fun W => rcmp_at hc1 W)
                clear hcell hr1 hr2 hc hc1
                go_wp2
                refine wp_region_quiet_below (by kernel_rfl) (by kernel_rfl) ?_
                repeat (first | go_big_quiet_step (first | (go_at_call 5; with_reducible exact Calls.regrown_of (C1.out _))) | quiet_step (first | (go_at_call 5; with_reducible exact Calls.regrown_of (C1.out _))))
                refine wpQuiet_nil ?_
                intro _ hw'
                obtain ⟨⟨nq, osq⟩, hw''⟩ := hw'
                subst hw''
                have hq := below_regrown wx nq osq
                clear F0 G0 F1 G1 F2 G2 F3 G3 F4 G4 F5 G5 F6 G6 F7 G7 F8 G8
                go_wp2
                go_roundw
                case rel =>
                  first
                    | exact ⟨k + 1, by go_num, by omega, HN.out.trans (hq.mono HN.out.size)⟩
                    | (repeat apply Exists.intro); exact ⟨⟨k + 1, by go_num, by omega, HN.out.trans (hq.mono HN.out.size)⟩, rfl⟩
                case measure =>
                  change S2.length + 1 - ((k : Int) + 1).toNat < S2.length + 1 - (k : Int).toNat
                  omega
              · have hI : ¬ (k : Int) < (S2.length : Int) := by omega
                go_wp2
                go_ret
                exact ⟨rfl, HB3.out.trans (HN.out.mono HB3.out.size)⟩
          · obtain rfl : zt = (q : Int) := by omega
            have hq0 : (0 : Int) ≤ (q : Int) := by omega
            have hqI : (q : Int) < (L.length : Int) := by omega
            obtain ⟨r, hr⟩ : ∃ r, r = q * 5 % L.length := ⟨_, rfl⟩
            have hrl : r < L.length := by rw [hr]; exact Nat.mod_lt _ (by omega)
            have hw5 : IntKind.i64.wrap ((q : Int) * 5) = (q : Int) * 5 := by rw [IntKind.wrap_i64]; omega
            have hrem : ((q : Int) * 5).tmod (L.length : Int) = (r : Int) := by rw [hr]; simp [Int.tmod_eq_emod_of_nonneg (by omega : (0 : Int) ≤ (q : Int) * 5)]
            have hL0 : ((L.length : Int) == 0) = false := by simp; intro h; rw [h] at hqI; simp at hqI; omega
            have hL1 : ¬ L = [] := by intro h; rw [h] at hqI; simp at hqI; omega
            have hrI : (r : Int) < (L.length : Int) := by omega
            obtain ⟨x1, hx1⟩ : ∃ x1, L[q]? = some x1 := ⟨_, List.getElem?_eq_getElem (by omega)⟩
            obtain ⟨x2, hx2⟩ : ∃ x2, L[r]? = some x2 := ⟨_, List.getElem?_eq_getElem hrl⟩
            obtain ⟨b, off, c', hv, _, hbB, hcell⟩ := HLL.out.posAt (by omega)
            injection hv with hv1 _ hv3
            subst hv1 hv3
            obtain ⟨Ad, cd, rfl, _⟩ := owns_form HO.out
            have hSall : ∀ W, Below w.heap.size w W → (W.cell? ⟨b, off + q * 9, none⟩ = some (.int .u32 x1.a) ∧ W.cell? ⟨b, off + q * 9 + 1, none⟩ = some (.int .i64 x1.m) ∧ W.cell? ⟨b, off + q * 9 + 2, none⟩ = some (.int .u8 x1.fr) ∧ W.cell? ⟨b, off + q * 9 + 3, none⟩ = some (.int .i64 x1.di) ∧ W.cell? ⟨b, off + q * 9 + 4, none⟩ = some (.int .i64 x1.me) ∧ W.cell? ⟨b, off + q * 9 + 5, none⟩ = some (.int .i64 x1.ta) ∧ W.cell? ⟨b, off + q * 9 + 6, none⟩ = some (.string x1.nm) ∧ W.cell? ⟨b, off + q * 9 + 7, none⟩ = some (.int .u32 x1.ho) ∧ W.cell? ⟨b, off + q * 9 + 8, none⟩ = some (.bool x1.dc) ∧ W.cell? ⟨b, off + r * 9, none⟩ = some (.int .u32 x2.a) ∧ W.cell? ⟨b, off + r * 9 + 1, none⟩ = some (.int .i64 x2.m) ∧ W.cell? ⟨b, off + r * 9 + 2, none⟩ = some (.int .u8 x2.fr) ∧ W.cell? ⟨b, off + r * 9 + 3, none⟩ = some (.int .i64 x2.di) ∧ W.cell? ⟨b, off + r * 9 + 4, none⟩ = some (.int .i64 x2.me) ∧ W.cell? ⟨b, off + r * 9 + 5, none⟩ = some (.int .i64 x2.ta) ∧ W.cell? ⟨b, off + r * 9 + 6, none⟩ = some (.string x2.nm) ∧ W.cell? ⟨b, off + r * 9 + 7, none⟩ = some (.int .u32 x2.ho) ∧ W.cell? ⟨b, off + r * 9 + 8, none⟩ = some (.bool x2.dc)) := fun W hb => ⟨(hb.cell (p := ⟨b, off + q * 9, none⟩) hbB).trans (hcell q 0 _ (rvcell hx1 rfl)), (hb.cell (p := ⟨b, off + q * 9 + 1, none⟩) hbB).trans (hcell q 1 _ (rvcell hx1 rfl)), (hb.cell (p := ⟨b, off + q * 9 + 2, none⟩) hbB).trans (hcell q 2 _ (rvcell hx1 rfl)), (hb.cell (p := ⟨b, off + q * 9 + 3, none⟩) hbB).trans (hcell q 3 _ (rvcell hx1 rfl)), (hb.cell (p := ⟨b, off + q * 9 + 4, none⟩) hbB).trans (hcell q 4 _ (rvcell hx1 rfl)), (hb.cell (p := ⟨b, off + q * 9 + 5, none⟩) hbB).trans (hcell q 5 _ (rvcell hx1 rfl)), (hb.cell (p := ⟨b, off + q * 9 + 6, none⟩) hbB).trans (hcell q 6 _ (rvcell hx1 rfl)), (hb.cell (p := ⟨b, off + q * 9 + 7, none⟩) hbB).trans (hcell q 7 _ (rvcell hx1 rfl)), (hb.cell (p := ⟨b, off + q * 9 + 8, none⟩) hbB).trans (hcell q 8 _ (rvcell hx1 rfl)), (hb.cell (p := ⟨b, off + r * 9, none⟩) hbB).trans (hcell r 0 _ (rvcell hx2 rfl)), (hb.cell (p := ⟨b, off + r * 9 + 1, none⟩) hbB).trans (hcell r 1 _ (rvcell hx2 rfl)), (hb.cell (p := ⟨b, off + r * 9 + 2, none⟩) hbB).trans (hcell r 2 _ (rvcell hx2 rfl)), (hb.cell (p := ⟨b, off + r * 9 + 3, none⟩) hbB).trans (hcell r 3 _ (rvcell hx2 rfl)), (hb.cell (p := ⟨b, off + r * 9 + 4, none⟩) hbB).trans (hcell r 4 _ (rvcell hx2 rfl)), (hb.cell (p := ⟨b, off + r * 9 + 5, none⟩) hbB).trans (hcell r 5 _ (rvcell hx2 rfl)), (hb.cell (p := ⟨b, off + r * 9 + 6, none⟩) hbB).trans (hcell r 6 _ (rvcell hx2 rfl)), (hb.cell (p := ⟨b, off + r * 9 + 7, none⟩) hbB).trans (hcell r 7 _ (rvcell hx2 rfl)), (hb.cell (p := ⟨b, off + r * 9 + 8, none⟩) hbB).trans (hcell r 8 _ (rvcell hx2 rfl))⟩
            obtain ⟨f0, f1, f2, f3, f4, f5, f6, f7, f8, g0, g1, g2, g3, g4, g5, g6, g7, g8⟩ := hSall wr HB.out
            have HX1 := Lib.hid hx1
            have HX2 := Lib.hid hx2
            clear hcell hx1 hx2 hr hzt
            have HOX := Lib.hid HO.out
            have hsz3 := HB.out.size
            go_upto_region 12 with fail
            clear HO
            go_region_held_law (fun w' => w'.cell? ⟨b, off + q * 9, none⟩ = some (.int .u32 x1.a) ∧ w'.cell? ⟨b, off + q * 9 + 1, none⟩ = some (.int .i64 x1.m) ∧ w'.cell? ⟨b, off + q * 9 + 2, none⟩ = some (.int .u8 x1.fr) ∧ w'.cell? ⟨b, off + q * 9 + 3, none⟩ = some (.int .i64 x1.di) ∧ w'.cell? ⟨b, off + q * 9 + 4, none⟩ = some (.int .i64 x1.me) ∧ w'.cell? ⟨b, off + q * 9 + 5, none⟩ = some (.int .i64 x1.ta) ∧ w'.cell? ⟨b, off + q * 9 + 6, none⟩ = some (.string x1.nm) ∧ w'.cell? ⟨b, off + q * 9 + 7, none⟩ = some (.int .u32 x1.ho) ∧ w'.cell? ⟨b, off + q * 9 + 8, none⟩ = some (.bool x1.dc) ∧ w'.cell? ⟨b, off + r * 9, none⟩ = some (.int .u32 x2.a) ∧ w'.cell? ⟨b, off + r * 9 + 1, none⟩ = some (.int .i64 x2.m) ∧ w'.cell? ⟨b, off + r * 9 + 2, none⟩ = some (.int .u8 x2.fr) ∧ w'.cell? ⟨b, off + r * 9 + 3, none⟩ = some (.int .i64 x2.di) ∧ w'.cell? ⟨b, off + r * 9 + 4, none⟩ = some (.int .i64 x2.me) ∧ w'.cell? ⟨b, off + r * 9 + 5, none⟩ = some (.int .i64 x2.ta) ∧ w'.cell? ⟨b, off + r * 9 + 6, none⟩ = some (.string x2.nm) ∧ w'.cell? ⟨b, off + r * 9 + 7, none⟩ = some (.int .u32 x2.ho) ∧ w'.cell? ⟨b, off + r * 9 + 8, none⟩ = some (.bool x2.dc)) (first | exact hS5 | go_keep) ((
              refine step_append_row rfl (.tmp 101) (.tmp 114) 28 rfl w.heap.size 27 i0 _ 9 72 Tryz.underlying28 hi hz0 hz1 hz2 rfl (by decide) (.slice Ad D.length cd) D.length (rvcells D) rfl (show World.ownsRow _ _ _ _ _ _ _ from HOX.out.alloc (.cells (rvcells [x1, x2]).toArray 27)) ⟨wr.heap.size, 0, none⟩ 2 2 (rvcells [x1, x2]) rfl rfl (show ∀ (j : Nat) u, _ → _ from cells_new wr (rvcells [x1, x2]) 27) (rvcells_one _) (by unfold maxLen; omega) (by omega) (by simp; omega) ?_
              intro v5 w5 hown5 hgr5
              have hb5 : Below w.heap.size w w5 := below_row (HB.out.alloc hsz3 (.cells (rvcells [x1, x2]).toArray 27)) (HOX.out.alloc (.cells (rvcells [x1, x2]).toArray 27)) (show (wr.alloc (.cells (rvcells [x1, x2]).toArray 27)).grownBy w5 _ from ⟨hgr5.1, hgr5.2, hgr5.3, hgr5.4, hgr5.5⟩) (by simp; omega) (Nat.le_refl _)
              have hS5 := hSall w5 hb5
              obtain ⟨Ax, cx, hv5, _⟩ := owns_form hown5
              subst hv5
              have HO5 := Lib.hid hown5
              have HB5 := Lib.hid hb5
              clear hown5 hgr5 hb5))
            go_wp2_with fail
            have hb5 := HB5.out
            have hown6 : w5.ownsRow w.heap.size 27 9 (.slice Ax (D.length + 2) cx) (D ++ [x1, x2]).length (rvcells (D ++ [x1, x2])) := by rw [rvcells_append, List.length_append]; exact HO5.out
            have hlen6 : (D ++ [x1, x2]).length = 2 * (L.length - q) := by have := HD.out; simp; omega
            have hDL6 : ∀ x, x ∈ D ++ [x1, x2] → x ∈ L := by
              intro x hx
              simp only [List.mem_append, List.mem_cons, List.not_mem_nil, or_false] at hx
              rcases hx with hx | rfl | rfl
              · exact HDL.out x hx
              · exact List.mem_of_getElem? HX1.out
              · exact List.mem_of_getElem? HX2.out
            have hLD6 : ∀ (j : Nat) x, q ≤ j → L[j]? = some x → x ∈ D ++ [x1, x2] := by
              intro j x hj hx
              rcases Nat.eq_or_lt_of_le hj with rfl | hj
              · have h := HX1.out
                rw [hx] at h
                injection h with h
                subst h
                simp
              · exact List.mem_append_left _ (HLD.out j x hj hx)
            have HL6 := Lib.hid hlen6
            clear hlen6 hSall hS5
            go_wp2_with fail
            go_roundw
            case rel =>
              first
                | exact ⟨q, D ++ [x1, x2], _, rfl, by first | rfl | omega, by omega, HL6.out, hDL6, hLD6, hown6, hb5⟩
                | (repeat apply Exists.intro); exact ⟨⟨q, D ++ [x1, x2], _, rfl, by first | rfl | omega, by omega, HL6.out, hDL6, hLD6, hown6, hb5⟩, rfl⟩
            case measure => simp [intOf] <;> omega
end Go.Proofs.YtlhafehhkjjchaaGreatDoor

/-
  Arguments opened to cells with their weights: no program in sight.
-/
namespace Go.Proofs.YtlhafehhkjjchaaGreatDoor
open Go Go.RowKit Go.ChangeShapes Go.WideShapes Go.Deep

section
variable {H : Type} {enc : TypeId × Value → H} {P : Program} {w : World} {base : Nat} {spare : Nat → Bool} {held : Bool}
/-- All of a datum's weights are within the reach. -/
def InReach (P : Program) (t : TypeId) (d : DataW H) : Prop := ∀ m ∈ d.weights P t, m ≤ reachBytes
theorem mem_weightsAll {e : TypeId} {d : DataW H} : ∀ {ds : List (DataW H)}, d ∈ ds → ∀ n ∈ d.weights P e, n ∈ DataW.weightsAll P e ds
  | [], h, _, _ => by simp at h
  | x :: ds, h, n, hn => by
    rw [DataW.weightsAll, List.mem_append]
    rcases List.mem_cons.1 h with rfl | h
    · exact .inl hn
    · exact .inr (mem_weightsAll h n hn)
theorem sub_at2 {t : TypeId} {fs : Array Field} {n : Nat} {cs : List Value} {x : DataW H × List MemPlace} (ht : P.underlying t = some (.struct fs)) (h : DataW.trod enc P w base spare held n t cs = some x) (hw : InReach P t x.1) :
    cs.length = P.cellsOf t ∧ ∃ m, ∀ (j : Nat) (f : Field) (off : Nat) (ty : TypeId) (k : Nat), fs[j]? = some f → f.offset = off → f.type = ty → P.cellsOf ty = k → ∃ y, DataW.trod enc P w base spare held m ty ((cs.drop off).take k) = some y ∧ InReach P ty y.1 := by
  obtain ⟨xs, m, _, hx, hl, hlen, hf⟩ := DataW.trod_struct ht h
  refine ⟨hl, m, fun j f off ty k hj ho hty hk => ?_⟩
  have h1 := hf j f hj
  have hjl : j < xs.length := by rw [hlen]; exact (Array.getElem?_eq_some_iff.1 hj).1
  subst ho hty hk
  refine ⟨_, h1.trans (List.getElem?_eq_getElem hjl), fun q hq => hw q ?_⟩
  rw [hx]
  simp only [DataW.weights, ht]
  exact DataW.weights_mem_each (j := j) (t := f.type) (by simpa using congrArg (Option.map (·.type)) hj) (by simp [hjl]) q hq
theorem open_rd2 {α : Type} {encV : α → List Value} {Q : α → Prop} {k : Nat} (hk : ∀ x, (encV x).length = k) (hk0 : 0 < k) {t e : TypeId} {n : Nat} {cs : List Value} {x : DataW H × List MemPlace} (ht : P.underlying t = some (.slice e)) (hC : P.cellsOf e = k)
    (hel : ∀ n cs y, DataW.trod enc P w base spare held n e cs = some y → InReach P e y.1 → ∃ r, cs = encV r ∧ Q r) (h : DataW.trod enc P w base spare held n t cs = some x) (hw : InReach P t x.1) :
    ∃ (v : Value) (L : List α), cs = [v] ∧ Rd w w.heap.size k v L.length (L.flatMap encV) ∧ L.length ≤ maxLen ∧ (∀ r ∈ L, Q r) ∧ L.length * P.bytesOf e ≤ reachBytes := by
  rcases open_slice ht h with ⟨h0, _⟩ | ⟨a, len, cap, m, n', D, Pl, hcs, _, hl, hm, hmm, hx, hi⟩
  · exact ⟨_, [], h0, ⟨none, 0, rfl, by simp, by simp, fun h => absurd h (by simp)⟩, by simp, by simp, by simp⟩
  · have hlm : len ≤ m := by rw [hmm]; split <;> omega
    have hw1 : ∀ i, i < len → InReach P e (D i) := fun i hi' q hq => by
      refine hw q ?_
      rw [hx]
      simp only [DataW.weights, ht]
      refine List.mem_cons_of_mem _ (List.mem_append_left _ (mem_weightsAll (d := D i) ?_ q hq))
      exact List.mem_map.2 ⟨i, List.mem_range.2 hi', rfl⟩
    have hw2 : len * P.bytesOf e ≤ reachBytes := by
      have := hw ((((List.range len).map D).length + ((List.range (m - len)).map fun j => D (len + j)).length) * P.bytesOf e) (by rw [hx]; simp only [DataW.weights, ht]; exact List.mem_cons_self ..)
      refine Nat.le_trans (Nat.mul_le_mul_right _ ?_) this
      simp
    obtain ⟨L, hL, hq⟩ := list_told (Q := fun i r => w.cells? base (a.add (i * k)) k = some (encV r) ∧ Q r) len (fun i hi' => by
      obtain ⟨cs', hc, ht'⟩ := hi i (by omega)
      obtain ⟨r, hr, hQ⟩ := hel _ _ _ ht' (hw1 i hi')
      rw [hC] at hc
      exact ⟨r, by rw [hc, hr], hQ⟩)
    refine ⟨_, L, hcs, ⟨some a, cap, by rw [hL], by omega, flat_len encV k hk L, fun hpos => ?_⟩, by omega, fun r hr => ?_, by rw [hL]; exact hw2⟩
    · obtain ⟨b, off, sp⟩ := a
      have hz : ∃ u, w.cell? ⟨b, off, sp⟩ = some u := by
        obtain ⟨r, hr⟩ : ∃ r, L[0]? = some r := ⟨_, List.getElem?_eq_getElem hpos⟩
        obtain ⟨_, _, hat⟩ := World.cells?_some (hq 0 r hr).1
        have h1 := hat 0 hk0
        have h2 : (encV r)[0]? = some ((encV r)[0]'(by rw [hk]; exact hk0)) := List.getElem?_eq_getElem _
        rw [h2] at h1
        refine ⟨_, Eq.trans ?_ h1⟩
        simp [Addr.add]
      obtain ⟨u0, hu0⟩ := hz
      obtain rfl := Go.Proofs.cell_spot hu0
      refine ⟨b, off, rfl, ?_, fun j u hu => ?_⟩
      · rcases Nat.lt_or_ge b w.heap.size with h | h
        · exact h
        · have hn : w.heap[b]? = none := by simp [h]
          simp [World.cell?, hn] at hu0
      · obtain ⟨i, jj, r, hj, hjj, hr, hu'⟩ := flat_inv encV k hk L j u hu
        obtain ⟨_, _, hat⟩ := World.cells?_some (hq i r hr).1
        have h1 := hat jj hjj
        rw [hu'] at h1
        have e : (Addr.add ⟨b, off, none⟩ (i * k)).add jj = ⟨b, off + j, none⟩ := by
          rw [hj]; simp only [Addr.add]
          split <;> split <;> simp_all <;> omega
        rw [← e]; exact h1
    · obtain ⟨i, hi', he⟩ := List.getElem_of_mem hr
      exact (hq i r (by rw [← he]; exact List.getElem?_eq_getElem hi')).2
end

end Go.Proofs.YtlhafehhkjjchaaGreatDoor
