/-
  Joined texts: Ft2, Ft3, Filt5.
-/
import Derived.Test.YtmgeknghgngliaaDoorMFilterBack10
import Derived.Test.YtmgeknghgngliaaDoorMFilterBack6
import Derived.Deep.RegionHeld3
import Derived.Deep.DeepCutAuto
import Derived.Test.YtmgeknghgngliaaDoorMFilterBack5
/-
  The walks of filter.ends and of filter.Parse.
-/
namespace Go.Proofs.YtmgeknghgngliaaDoor
open Go Go.RowKit Go.Lib Go.Sort

theorem uint16_yes (y : ByteArray) (hl : y.size < 4294967281) (u : Nat) (h : Lib.parseUintB 16 y.data.toList = .ok u) (w : World) :
    Calls Tryd.prog 54 #[.string y, .int .i64 10, .int .i64 16] w fun e w' => e = .returned (.tuple #[.int .u64 u, .nilIface]) ∧ Below w.heap.size w w' :=
  (Tryd.strconv_ParseUint_10_at16_ok y (by omega) u h w).mono fun _ _ hh => ⟨hh.1, below_of_atoi (t := 5) (hh.2.imp id fun e => ⟨_, e⟩)⟩
theorem uint16_no (y : ByteArray) (hl : y.size < 4294967281) (h : ∀ n, Lib.parseUintB 16 y.data.toList ≠ .ok n) (w : World) (hE : Env w) :
    Calls Tryd.prog 54 #[.string y, .int .i64 10, .int .i64 16] w fun e w' => (∃ (x : Int) (tq : TypeId) (vq : Value), e = .returned (.tuple #[.int .u64 x, .iface tq vq]) ∧ 0 ≤ x ∧ x < 65536) ∧ Below w.heap.size w w' := by
  cases hp : Lib.parseUintB 16 y.data.toList with
  | ok n => exact absurd hp (h n)
  | range =>
    obtain ⟨tp, p, hs⟩ := hE.ran
    refine (Tryd.strconv_ParseUint_10_at16_range y (by omega) hp _ w hs (Or.inr ⟨_, _, rfl⟩)).mono ?_
    rintro e w1 ⟨N, rfl, _, _, hb⟩
    exact ⟨⟨_, _, _, rfl, by omega, by omega⟩, hb⟩
  | _ =>
    obtain ⟨tp, p, hs⟩ := hE.syn
    refine (Tryd.strconv_ParseUint_10_at16_syntax y (by omega) hp _ w hs (Or.inr ⟨_, _, rfl⟩)).mono ?_
    rintro e w1 ⟨N, rfl, _, _, hb⟩
    exact ⟨⟨_, _, _, rfl, by omega, by omega⟩, hb⟩
theorem uint8_yes (y : ByteArray) (hl : y.size < 4294967281) (u : Nat) (h : Lib.parseUintB 8 y.data.toList = .ok u) (w : World) :
    Calls Tryd.prog 54 #[.string y, .int .i64 10, .int .i64 8] w fun e w' => e = .returned (.tuple #[.int .u64 u, .nilIface]) ∧ Below w.heap.size w w' :=
  (Tryd.strconv_ParseUint_10_at8_ok y (by omega) u h w).mono fun _ _ hh => ⟨hh.1, below_of_atoi (t := 5) (hh.2.imp id fun e => ⟨_, e⟩)⟩
theorem uint8_no (y : ByteArray) (hl : y.size < 4294967281) (h : ∀ n, Lib.parseUintB 8 y.data.toList ≠ .ok n) (w : World) (hE : Env w) :
    Calls Tryd.prog 54 #[.string y, .int .i64 10, .int .i64 8] w fun e w' => (∃ (x : Int) (tq : TypeId) (vq : Value), e = .returned (.tuple #[.int .u64 x, .iface tq vq]) ∧ 0 ≤ x ∧ x < 256) ∧ Below w.heap.size w w' := by
  cases hp : Lib.parseUintB 8 y.data.toList with
  | ok n => exact absurd hp (h n)
  | range =>
    obtain ⟨tp, p, hs⟩ := hE.ran
    refine (Tryd.strconv_ParseUint_10_at8_range y (by omega) hp _ w hs (Or.inr ⟨_, _, rfl⟩)).mono ?_
    rintro e w1 ⟨N, rfl, _, _, hb⟩
    exact ⟨⟨_, _, _, rfl, by omega, by omega⟩, hb⟩
  | _ =>
    obtain ⟨tp, p, hs⟩ := hE.syn
    refine (Tryd.strconv_ParseUint_10_at8_syntax y (by omega) hp _ w hs (Or.inr ⟨_, _, rfl⟩)).mono ?_
    rintro e w1 ⟨N, rfl, _, _, hb⟩
    exact ⟨⟨_, _, _, rfl, by omega, by omega⟩, hb⟩
set_option maxRecDepth 100000 in
set_option maxHeartbeats 4000000 in
theorem endsR_eq {w lo hi : List UInt8} {two : Bool} (h : Lib.cut w [45] = (lo, hi, two)) : endsR w = match Lib.parseUintB 16 lo, Lib.parseUintB 16 hi with
    | .ok a, .ok b => (a, b)
    | _, _ => (1, 0) := by
  unfold endsR
  rw [h]
  rfl
theorem ends_yes {w lo hi : List UInt8} {two : Bool} {a b : Nat} (h : Lib.cut w [45] = (lo, hi, two)) (ha : Lib.parseUintB 16 lo = .ok a) (hb : Lib.parseUintB 16 hi = .ok b) : endsR w = ((a : Int), (b : Int)) := by rw [endsR_eq h, ha, hb]
theorem ends_no1 {w lo hi : List UInt8} {two : Bool} (h : Lib.cut w [45] = (lo, hi, two)) (ha : ∀ n, Lib.parseUintB 16 lo ≠ .ok n) : endsR w = (1, 0) := by
  rw [endsR_eq h]
  split
  · rename_i e _; exact absurd e (ha _)
  · rfl
theorem ends_no2 {w lo hi : List UInt8} {two : Bool} (h : Lib.cut w [45] = (lo, hi, two)) (hb : ∀ n, Lib.parseUintB 16 hi ≠ .ok n) : endsR w = (1, 0) := by
  rw [endsR_eq h]
  split
  · rename_i e; exact absurd e (hb _)
  · rfl
theorem results_1s {fn : Func} {tmps : Array Value} {w : World} {g : Nat} {a b : Value} {t1 : Nat} (hf : fn.results = #[.cell t1 41]) (h1 : tmps.getD t1 undef = .pointer (some ⟨g, 0, none⟩))
    (k1 : w.heap[g]? = some (.cells #[a, b] 41 (0, 0))) :
    (results fn tmps).run Tryd.prog w = .ok (.agg #[a, b]) w := by
  obtain ⟨c0, c1, _, _⟩ := two_cells k1
  have h1' : tmps[t1]?.getD undef = .pointer (some ⟨g, 0, none⟩) := by simpa using h1
  simp [results, hf, h1', go_sem, c0, c1]
set_option maxRecDepth 100000 in
set_option maxHeartbeats 4000000 in
theorem ends_any (y : ByteArray) (hl : y.size < 4294967281) (w : World) (hE : Env w) :
    Calls Tryd.prog 53 #[.string y] w fun e w' => e = .returned (.agg #[.int .u32 (endsR y.data.toList).1, .int .u32 (endsR y.data.toList).2]) ∧ Below w.heap.size w w' := by
  generalize hX : Lib.cut y.data.toList [45] = X
  obtain ⟨lo, hi', two⟩ := X
  have HX := Lib.hid hX
  have hxl : y.data.toList.length = y.size := Array.length_toList
  have ll : lo.length ≤ y.size := by have := cut_fst_len y.data.toList [45]; rw [hX] at this; dsimp only at this; omega
  have lh : hi'.length ≤ y.size := by have := cut_snd_len y.data.toList [45]; rw [hX] at this; dsimp only at this; omega
  have sl : (⟨lo.toArray⟩ : ByteArray).size < 4294967281 := by show lo.length < _; omega
  have sh : (⟨hi'.toArray⟩ : ByteArray).size < 4294967281 := by show hi'.length < _; omega
  have hk0 := heap_alloc_new w (.cells #[.int .u32 0, .int .u32 0] 41)
  have hb0 : Below w.heap.size w (w.alloc (.cells #[.int .u32 0, .int .u32 0] 41)) := (Below.refl _ _).alloc (Nat.le_refl _) _
  have hE0 := hE.below hb0
  obtain ⟨m, hm⟩ := hE0.len
  have hC := Tryd.strings_Cut y ⟨#[45]⟩ m (w.alloc (.cells #[.int .u32 0, .int .u32 0] 41)) (by omega) hm
  rw [show ({ data := #[45] } : ByteArray).data.toList = [45] from rfl, hX] at hC
  dsimp only at hC
  clear hX hm hxl ll lh
  have HC := Lib.hid hC
  clear hC
  go_enter Tryd.func53, Tryd.ntmps53
  go_wp2_with fail
  generalize w.alloc (.cells #[.int .u32 0, .int .u32 0] 41) = W at *
  refine HC.out.mono ?_
  rintro e w2 ⟨rfl, nq, rfl⟩
  have hb2 : Below w.heap.size w (W.drewN nq) := below_drewN hb0 nq
  have hE2 := hE.below hb2
  have hk2 := heap_drewN (n := nq) hk0
  clear HC hE0 hk0 hb0
  generalize W.drewN nq = W2 at *
  by_cases ha : ∃ a, Lib.parseUintB 16 lo = .ok a
  · obtain ⟨a, ha⟩ := ha
    go_wp2_with fail
    refine (uint16_yes ⟨lo.toArray⟩ sl a ha W2).mono ?_
    rintro e w3 ⟨rfl, hb⟩
    have hk3 := blk_below hb hk2
    have hb3 := below_call hb2 hb
    have hE3 := hE.below hb3
    clear hb hb2 hk2 hE2
    by_cases hb' : ∃ b, Lib.parseUintB 16 hi' = .ok b
    · obtain ⟨b, hb'⟩ := hb'
      go_wp2_with fail
      refine (uint16_yes ⟨hi'.toArray⟩ sh b hb' w3).mono ?_
      rintro e w4 ⟨rfl, hb⟩
      have hk4 := blk_below hb hk3
      have hb4 := below_call hb3 hb
      clear hb hb3 hk3 hE3
      obtain ⟨c0, c1, f0, f1⟩ := two_cells hk4
      have HK := Lib.hid hk4
      have hz := Lib.hid (ends_yes HX.out ha hb')
      have la := uint16_le ha
      have lb := uint16_le hb'
      have d1 : (a : Int) % 4294967296 = a := by omega
      have d2 : (b : Int) % 4294967296 = b := by omega
      clear hk4
      go_wp2
      exact bodyPost_ret (results_1s (t1 := 2) (g := w.heap.size) Tryd.results53 rfl (set_1 (set_0 HK.out))) rfl ⟨by rw [hz.out], (hb4.setCell (Nat.le_refl _) _).setCell (Nat.le_refl _) _⟩
    · have hb' : ∀ n, Lib.parseUintB 16 (⟨hi'.toArray⟩ : ByteArray).data.toList ≠ .ok n := fun n e => hb' ⟨n, e⟩
      go_wp2_with fail
      refine (uint16_no ⟨hi'.toArray⟩ sh hb' w3 hE3).mono ?_
      rintro e w4 ⟨⟨xb, tb, qb, rfl, gb0, gb1⟩, hb⟩
      have hk4 := blk_below hb hk3
      have hb4 := below_call hb3 hb
      clear hb hb3 hk3 hE3
      obtain ⟨c0, c1, f0, f1⟩ := two_cells hk4
      have HK := Lib.hid hk4
      have hz := Lib.hid (ends_no2 HX.out hb')
      clear hk4
      go_wp2
      exact bodyPost_ret (results_1s (t1 := 2) (g := w.heap.size) Tryd.results53 rfl (set_1 (set_0 HK.out))) rfl ⟨by rw [hz.out], (hb4.setCell (Nat.le_refl _) _).setCell (Nat.le_refl _) _⟩
  · have ha : ∀ n, Lib.parseUintB 16 (⟨lo.toArray⟩ : ByteArray).data.toList ≠ .ok n := fun n e => ha ⟨n, e⟩
    go_wp2_with fail
    refine (uint16_no ⟨lo.toArray⟩ sl ha W2 hE2).mono ?_
    rintro e w3 ⟨⟨xa, ta, qa, rfl, ga0, ga1⟩, hb⟩
    have hk3 := blk_below hb hk2
    have hb3 := below_call hb2 hb
    have hE3 := hE.below hb3
    clear hb hb2 hk2 hE2
    by_cases hb' : ∃ b, Lib.parseUintB 16 hi' = .ok b
    · obtain ⟨b, hb'⟩ := hb'
      go_wp2_with fail
      refine (uint16_yes ⟨hi'.toArray⟩ sh b hb' w3).mono ?_
      rintro e w4 ⟨rfl, hb⟩
      have hk4 := blk_below hb hk3
      have hb4 := below_call hb3 hb
      clear hb hb3 hk3 hE3
      obtain ⟨c0, c1, f0, f1⟩ := two_cells hk4
      have HK := Lib.hid hk4
      have hz := Lib.hid (ends_no1 HX.out ha)
      clear hk4
      go_wp2
      exact bodyPost_ret (results_1s (t1 := 2) (g := w.heap.size) Tryd.results53 rfl (set_1 (set_0 HK.out))) rfl ⟨by rw [hz.out], (hb4.setCell (Nat.le_refl _) _).setCell (Nat.le_refl _) _⟩
    · have hb' : ∀ n, Lib.parseUintB 16 (⟨hi'.toArray⟩ : ByteArray).data.toList ≠ .ok n := fun n e => hb' ⟨n, e⟩
      go_wp2_with fail
      refine (uint16_no ⟨hi'.toArray⟩ sh hb' w3 hE3).mono ?_
      rintro e w4 ⟨⟨xb, tb, qb, rfl, gb0, gb1⟩, hb⟩
      have hk4 := blk_below hb hk3
      have hb4 := below_call hb3 hb
      clear hb hb3 hk3 hE3
      obtain ⟨c0, c1, f0, f1⟩ := two_cells hk4
      have HK := Lib.hid hk4
      have hz := Lib.hid (ends_no1 HX.out ha)
      clear hk4
      go_wp2
      exact bodyPost_ret (results_1s (t1 := 2) (g := w.heap.size) Tryd.results53 rfl (set_1 (set_0 HK.out))) rfl ⟨by rw [hz.out], (hb4.setCell (Nat.le_refl _) _).setCell (Nat.le_refl _) _⟩
end Go.Proofs.YtmgeknghgngliaaDoor

/-
  The walk of filter.Parse (written by wip/gen/genft3.py).
-/
namespace Go.Proofs.YtmgeknghgngliaaDoor
open Go Go.RowKit Go.Lib Go.Sort

theorem rset0 {w : World} {g : Nat} {v0 v1 v2 v3 v4 v5 v6 v7 v8 v9 u : Value} {t : TypeId} (h : w.heap[g]? = some (.cells #[v0, v1, v2, v3, v4, v5, v6, v7, v8, v9] t (0, 0))) : (w.setCell ⟨g, 0, none⟩ u).heap[g]? = some (.cells #[u, v1, v2, v3, v4, v5, v6, v7, v8, v9] t (0, 0)) := set_at h
theorem rset1 {w : World} {g : Nat} {v0 v1 v2 v3 v4 v5 v6 v7 v8 v9 u : Value} {t : TypeId} (h : w.heap[g]? = some (.cells #[v0, v1, v2, v3, v4, v5, v6, v7, v8, v9] t (0, 0))) : (w.setCell ⟨g, 1, none⟩ u).heap[g]? = some (.cells #[v0, u, v2, v3, v4, v5, v6, v7, v8, v9] t (0, 0)) := set_at h
theorem rset2 {w : World} {g : Nat} {v0 v1 v2 v3 v4 v5 v6 v7 v8 v9 u : Value} {t : TypeId} (h : w.heap[g]? = some (.cells #[v0, v1, v2, v3, v4, v5, v6, v7, v8, v9] t (0, 0))) : (w.setCell ⟨g, 2, none⟩ u).heap[g]? = some (.cells #[v0, v1, u, v3, v4, v5, v6, v7, v8, v9] t (0, 0)) := set_at h
theorem rset3 {w : World} {g : Nat} {v0 v1 v2 v3 v4 v5 v6 v7 v8 v9 u : Value} {t : TypeId} (h : w.heap[g]? = some (.cells #[v0, v1, v2, v3, v4, v5, v6, v7, v8, v9] t (0, 0))) : (w.setCell ⟨g, 3, none⟩ u).heap[g]? = some (.cells #[v0, v1, v2, u, v4, v5, v6, v7, v8, v9] t (0, 0)) := set_at h
theorem rset4 {w : World} {g : Nat} {v0 v1 v2 v3 v4 v5 v6 v7 v8 v9 u : Value} {t : TypeId} (h : w.heap[g]? = some (.cells #[v0, v1, v2, v3, v4, v5, v6, v7, v8, v9] t (0, 0))) : (w.setCell ⟨g, 4, none⟩ u).heap[g]? = some (.cells #[v0, v1, v2, v3, u, v5, v6, v7, v8, v9] t (0, 0)) := set_at h
theorem rset5 {w : World} {g : Nat} {v0 v1 v2 v3 v4 v5 v6 v7 v8 v9 u : Value} {t : TypeId} (h : w.heap[g]? = some (.cells #[v0, v1, v2, v3, v4, v5, v6, v7, v8, v9] t (0, 0))) : (w.setCell ⟨g, 5, none⟩ u).heap[g]? = some (.cells #[v0, v1, v2, v3, v4, u, v6, v7, v8, v9] t (0, 0)) := set_at h
theorem rset6 {w : World} {g : Nat} {v0 v1 v2 v3 v4 v5 v6 v7 v8 v9 u : Value} {t : TypeId} (h : w.heap[g]? = some (.cells #[v0, v1, v2, v3, v4, v5, v6, v7, v8, v9] t (0, 0))) : (w.setCell ⟨g, 6, none⟩ u).heap[g]? = some (.cells #[v0, v1, v2, v3, v4, v5, u, v7, v8, v9] t (0, 0)) := set_at h
theorem rset7 {w : World} {g : Nat} {v0 v1 v2 v3 v4 v5 v6 v7 v8 v9 u : Value} {t : TypeId} (h : w.heap[g]? = some (.cells #[v0, v1, v2, v3, v4, v5, v6, v7, v8, v9] t (0, 0))) : (w.setCell ⟨g, 7, none⟩ u).heap[g]? = some (.cells #[v0, v1, v2, v3, v4, v5, v6, u, v8, v9] t (0, 0)) := set_at h
theorem rset8 {w : World} {g : Nat} {v0 v1 v2 v3 v4 v5 v6 v7 v8 v9 u : Value} {t : TypeId} (h : w.heap[g]? = some (.cells #[v0, v1, v2, v3, v4, v5, v6, v7, v8, v9] t (0, 0))) : (w.setCell ⟨g, 8, none⟩ u).heap[g]? = some (.cells #[v0, v1, v2, v3, v4, v5, v6, v7, u, v9] t (0, 0)) := set_at h
theorem rset9 {w : World} {g : Nat} {v0 v1 v2 v3 v4 v5 v6 v7 v8 v9 u : Value} {t : TypeId} (h : w.heap[g]? = some (.cells #[v0, v1, v2, v3, v4, v5, v6, v7, v8, v9] t (0, 0))) : (w.setCell ⟨g, 9, none⟩ u).heap[g]? = some (.cells #[v0, v1, v2, v3, v4, v5, v6, v7, v8, u] t (0, 0)) := set_at h
theorem blk10 {w : World} {g : Nat} {v0 v1 v2 v3 v4 v5 v6 v7 v8 v9 : Value} {t : TypeId} (h : w.heap[g]? = some (.cells #[v0, v1, v2, v3, v4, v5, v6, v7, v8, v9] t (0, 0))) : w.cell? ⟨g, 0, none⟩ = some v0 ∧ w.cell? ⟨g, 1, none⟩ = some v1 ∧ w.cell? ⟨g, 2, none⟩ = some v2 ∧ w.cell? ⟨g, 3, none⟩ = some v3 ∧ w.cell? ⟨g, 4, none⟩ = some v4 ∧ w.cell? ⟨g, 5, none⟩ = some v5 ∧ w.cell? ⟨g, 6, none⟩ = some v6 ∧ w.cell? ⟨g, 7, none⟩ = some v7 ∧ w.cell? ⟨g, 8, none⟩ = some v8 ∧ w.cell? ⟨g, 9, none⟩ = some v9 :=
  ⟨cell_of_row w g 0 _ t (0, 0) h, cell_of_row w g 1 _ t (0, 0) h, cell_of_row w g 2 _ t (0, 0) h, cell_of_row w g 3 _ t (0, 0) h, cell_of_row w g 4 _ t (0, 0) h, cell_of_row w g 5 _ t (0, 0) h, cell_of_row w g 6 _ t (0, 0) h, cell_of_row w g 7 _ t (0, 0) h, cell_of_row w g 8 _ t (0, 0) h, cell_of_row w g 9 _ t (0, 0) h⟩
/-- The rule that the program reads of the words. -/
def candF (p0 p2 p3 p4 p5 : List UInt8) (pr : Int) (hpr : -9223372036854775808 ≤ pr ∧ pr ≤ 9223372036854775807) : RuleV := ⟨permR p0, pr, ppA p2, ppN p2, ppA p3, ppN p3, (endsR p4).1, (endsR p4).2, (endsR p5).1, (endsR p5).2, hpr, ppA_lt p2, ppA_lt p3, ⟨(endsR_lt p4).1, by have := endsR_lt p4; omega⟩, ⟨(endsR_lt p4).2.2.1, by have := endsR_lt p4; omega⟩, ⟨(endsR_lt p5).1, by have := endsR_lt p5; omega⟩, ⟨(endsR_lt p5).2.2.1, by have := endsR_lt p5; omega⟩⟩
theorem candF_O {l p0 p1 p2 p3 p4 p5 : List UInt8} {pr : Int} {hpr : -9223372036854775808 ≤ pr ∧ pr ≤ 9223372036854775807} (hp : pieces 32 l = [p0, p1, p2, p3, p4, p5]) (h1 : protoR p1 = some pr) :
    frO l = if ppE p2 = 0 ∧ ppE p3 = 0 ∧ mayB (candF p0 p2 p3 p4 p5 pr hpr) = true ∧ (candF p0 p2 p3 p4 p5 pr hpr).text = l then some (candF p0 p2 p3 p4 p5 pr hpr) else none :=
  frO_cand hp ⟨rfl, rfl, rfl, rfl, rfl⟩ h1 rfl rfl
def zeroRule : RuleV := default
theorem results_r {fn : Func} {tmps : Array Value} {w : World} {g : Nat} {r : RuleV} {e : Value} {t1 t3 : Nat} (hf : fn.results = #[.cell t1 51, .tmp t3]) (h1 : tmps.getD t1 undef = .pointer (some ⟨g, 0, none⟩)) (h3 : tmps.getD t3 undef = e)
    (k1 : w.heap[g]? = some (ruleObj r)) :
    (results fn tmps).run Tryd.prog w = .ok (.tuple #[r.agg, e]) w := by
  obtain ⟨c0, c1, c2, c3, c4, c5, c6, c7, c8, c9⟩ := rule_blk (r := r) k1
  have h1' : tmps[t1]?.getD undef = .pointer (some ⟨g, 0, none⟩) := by simpa using h1
  have h3' : tmps[t3]?.getD undef = e := by simpa using h3
  simp [results, hf, h1', h3', go_sem, c0, c1, c2, c3, c4, c5, c6, c7, c8, c9, RuleV.agg, RuleV.enc]
theorem six_list {L : List ByteArray} (h : L.length = 6) : ∃ a b c d e f, L = [a, b, c, d, e, f] := six h
theorem below_al {W V : World} {o : Obj} (h : Below W.heap.size W V) : Below W.heap.size W (V.alloc o) := h.alloc h.size o
theorem cell_al {V : World} {o : Obj} {a : Addr} {v : Value} (c : V.cell? a = some v) : (V.alloc o).cell? a = some v := cell_kept (below1 V o) c
theorem cell_dr {V : World} {a : Addr} {v : Value} (c : V.cell? a = some v) : V.drew.cell? a = some v := c
theorem keep3 {W V : World} {a b c : Addr} {x y z : Value} (h0 : W.cell? a = some x) (h1 : W.cell? b = some y) (h2 : W.cell? c = some z) (h : Below W.heap.size W V) : V.cell? a = some x ∧ V.cell? b = some y ∧ V.cell? c = some z ∧ Below W.heap.size W V := ⟨cell_kept h h0, cell_kept h h1, cell_kept h h2, h⟩
theorem st10 {W V : World} {g : Nat} {u0 u1 u2 u3 u4 u5 u6 u7 u8 u9 : Value} (h : Below W.heap.size W V) (hg : W.heap.size ≤ g) : Below W.heap.size W ((((((((((V.setCell ⟨g, 0, none⟩ u0).setCell ⟨g, 1, none⟩ u1).setCell ⟨g, 2, none⟩ u2).setCell ⟨g, 3, none⟩ u3).setCell ⟨g, 4, none⟩ u4).setCell ⟨g, 5, none⟩ u5).setCell ⟨g, 6, none⟩ u6).setCell ⟨g, 7, none⟩ u7).setCell ⟨g, 8, none⟩ u8).setCell ⟨g, 9, none⟩ u9) := ((((((((((h.setCell (p := ⟨g, 0, none⟩) hg u0).setCell (p := ⟨g, 1, none⟩) hg u1).setCell (p := ⟨g, 2, none⟩) hg u2).setCell (p := ⟨g, 3, none⟩) hg u3).setCell (p := ⟨g, 4, none⟩) hg u4).setCell (p := ⟨g, 5, none⟩) hg u5).setCell (p := ⟨g, 6, none⟩) hg u6).setCell (p := ⟨g, 7, none⟩) hg u7).setCell (p := ⟨g, 8, none⟩) hg u8).setCell (p := ⟨g, 9, none⟩) hg u9)
theorem st10b {V : World} {g : Nat} {u0 u1 u2 u3 u4 u5 u6 u7 u8 u9 v0 v1 v2 v3 v4 v5 v6 v7 v8 v9 : Value} {t : TypeId} (h : V.heap[g]? = some (.cells #[v0, v1, v2, v3, v4, v5, v6, v7, v8, v9] t (0, 0))) : ((((((((((V.setCell ⟨g, 0, none⟩ u0).setCell ⟨g, 1, none⟩ u1).setCell ⟨g, 2, none⟩ u2).setCell ⟨g, 3, none⟩ u3).setCell ⟨g, 4, none⟩ u4).setCell ⟨g, 5, none⟩ u5).setCell ⟨g, 6, none⟩ u6).setCell ⟨g, 7, none⟩ u7).setCell ⟨g, 8, none⟩ u8).setCell ⟨g, 9, none⟩ u9).heap[g]? = some (.cells #[u0, u1, u2, u3, u4, u5, u6, u7, u8, u9] t (0, 0)) := (rset9 (rset8 (rset7 (rset6 (rset5 (rset4 (rset3 (rset2 (rset1 (rset0 h))))))))))
theorem fin1 {W V : World} {o : Obj} (h : Below W.heap.size W V) : ∃ g, Value.pointer (some ⟨V.heap.size, 0, none⟩) = .pointer (some ⟨g, 0, none⟩) ∧ W.heap.size ≤ g ∧ (V.alloc o).heap[g]? = some o ∧ Below W.heap.size W (V.alloc o) := ⟨_, rfl, h.size, heap_alloc_new _ _, below_al h⟩
theorem fin2 {W V : World} {g0 : Nat} {u0 u1 u2 u3 u4 u5 u6 u7 u8 u9 : Value} {t : TypeId} (h : Below W.heap.size W V) (hq : V.heap[g0]? = some (.cells #[.bool false, .int .i64 0, .int .u32 0, .int .i64 0, .int .u32 0, .int .i64 0, .int .u32 0, .int .u32 0, .int .u32 0, .int .u32 0] t (0, 0))) (hg : W.heap.size ≤ g0) : ∃ g, Value.pointer (some ⟨g0, 0, none⟩) = .pointer (some ⟨g, 0, none⟩) ∧ W.heap.size ≤ g ∧ ((((((((((V.setCell ⟨g0, 0, none⟩ u0).setCell ⟨g0, 1, none⟩ u1).setCell ⟨g0, 2, none⟩ u2).setCell ⟨g0, 3, none⟩ u3).setCell ⟨g0, 4, none⟩ u4).setCell ⟨g0, 5, none⟩ u5).setCell ⟨g0, 6, none⟩ u6).setCell ⟨g0, 7, none⟩ u7).setCell ⟨g0, 8, none⟩ u8).setCell ⟨g0, 9, none⟩ u9).heap[g]? = some (.cells #[u0, u1, u2, u3, u4, u5, u6, u7, u8, u9] t (0, 0)) ∧ Below W.heap.size W ((((((((((V.setCell ⟨g0, 0, none⟩ u0).setCell ⟨g0, 1, none⟩ u1).setCell ⟨g0, 2, none⟩ u2).setCell ⟨g0, 3, none⟩ u3).setCell ⟨g0, 4, none⟩ u4).setCell ⟨g0, 5, none⟩ u5).setCell ⟨g0, 6, none⟩ u6).setCell ⟨g0, 7, none⟩ u7).setCell ⟨g0, 8, none⟩ u8).setCell ⟨g0, 9, none⟩ u9) := ⟨_, rfl, hg, st10b hq, st10 h hg⟩
theorem below_of {w V : World} (h : Below w.heap.size w V) : Below w.heap.size w V := h
set_option maxRecDepth 100000 in
set_option maxHeartbeats 4000000 in
theorem ftParse_not (s : ByteArray) (L : List ByteArray) (w : World) (hE : Env w) (hlim : s.size < 4294967281) (hP : (pieces 32 s.data.toList).length = L.length) (hS : Lib.splitB ⟨#[32]⟩ 0 (Lib.countB s ⟨#[32]⟩) s = L) (hN : Lib.countB s ⟨#[32]⟩ + 1 = L.length) (h6 : L.length ≠ 6) :
    Calls Tryd.prog 18 #[.string s] w fun e w' => e = .returned (.tuple #[(frV s.data.toList).agg, .int .i64 (frE s.data.toList)]) ∧ Below w.heap.size w w' := by
  have hkz := heap_alloc_new w (ruleObj default)
  have hb0 := below1 w (ruleObj default)
  have hE0 := hE.below hb0
  obtain ⟨m, hm⟩ := hE0.len
  have hSp := Tryd.strings_Split s ⟨#[32]⟩ m (w.alloc (ruleObj default)) (by omega) hm (by decide)
  rw [hS, hN] at hSp
  have HSp := Lib.hid hSp
  have hz := Lib.hid (fr_none (frO_len (l := s.data.toList) (by rw [hP]; exact h6)))
  have hd : ((L.length : Int) != 6) = true := by simp; omega
  clear hSp hS hN hm hP
  go_enter Tryd.func18, Tryd.ntmps18
  go_wp2_with fail
  refine HSp.out.mono ?_
  rintro e w1 ⟨rfl, rfl⟩
  have hk1 := (Below.heap_alloc (w.alloc (ruleObj default)) (.cells (L.map Value.string).toArray 9) _ (lt_of_block hkz)).trans hkz
  have hb1 := hb0.alloc hb0.size (.cells (L.map Value.string).toArray 9)
  clear HSp hE0 hkz hb0
  generalize (w.alloc (ruleObj default)).alloc (.cells (L.map Value.string).toArray 9) = W at *
  obtain ⟨c0, c1, c2, c3, c4, c5, c6, c7, c8, c9⟩ := blk10 hk1
  have f0 := frozen_row hk1 0
  have f1 := frozen_row hk1 1
  have f2 := frozen_row hk1 2
  have f3 := frozen_row hk1 3
  have f4 := frozen_row hk1 4
  have f5 := frozen_row hk1 5
  have f6 := frozen_row hk1 6
  have f7 := frozen_row hk1 7
  have f8 := frozen_row hk1 8
  have f9 := frozen_row hk1 9
  have HK := Lib.hid hk1
  clear hk1
  go_wp2
  exact bodyPost_ret (results_r (t1 := 2) (t3 := 3) (g := w.heap.size) (r := default) Tryd.results18 rfl rfl (rset9 (rset8 (rset7 (rset6 (rset5 (rset4 (rset3 (rset2 (rset1 (rset0 HK.out))))))))))) rfl ⟨by rw [hz.out.1, hz.out.2]; rfl, ((((((((((hb1.setCell (Nat.le_refl _) _).setCell (Nat.le_refl _) _).setCell (Nat.le_refl _) _).setCell (Nat.le_refl _) _).setCell (Nat.le_refl _) _).setCell (Nat.le_refl _) _).setCell (Nat.le_refl _) _).setCell (Nat.le_refl _) _).setCell (Nat.le_refl _) _).setCell (Nat.le_refl _) _)⟩
set_option maxRecDepth 100000 in
set_option maxHeartbeats 20000000 in
theorem ftParse_six (s : ByteArray) (x0 x1 x2 x3 x4 x5 : ByteArray) (w : World) (hE : Env w) (hlim : s.size < 4294967281) (hP : pieces 32 s.data.toList = [x0.data.toList, x1.data.toList, x2.data.toList, x3.data.toList, x4.data.toList, x5.data.toList]) (hS : Lib.splitB ⟨#[32]⟩ 0 (Lib.countB s ⟨#[32]⟩) s = [x0, x1, x2, x3, x4, x5]) (hN : Lib.countB s ⟨#[32]⟩ + 1 = 6) :
    Calls Tryd.prog 18 #[.string s] w fun e w' => e = .returned (.tuple #[(frV s.data.toList).agg, .int .i64 (frE s.data.toList)]) ∧ Below w.heap.size w w' := by
  have hkz := heap_alloc_new w (ruleObj default)
  have hb0 := below1 w (ruleObj default)
  have hE0 := hE.below hb0
  obtain ⟨m, hm⟩ := hE0.len
  have hSp := Tryd.strings_Split s ⟨#[32]⟩ m (w.alloc (ruleObj default)) (by omega) hm (by decide)
  rw [hS, hN] at hSp
  have HSp := Lib.hid hSp
  clear hSp hS hN hm
  have hl : ∀ x ∈ [x0, x1, x2, x3, x4, x5], x.size < 4294967281 := by
    intro x hx
    have h1 : x.data.toList ∈ pieces 32 s.data.toList := by
      rw [hP]
      simp only [List.mem_cons, List.not_mem_nil, or_false] at hx ⊢
      rcases hx with rfl | rfl | rfl | rfl | rfl | rfl <;> simp
    have h2 := pieces_len 32 _ _ h1
    have e1 : s.data.toList.length = s.size := Array.length_toList
    have e2 : x.data.toList.length = x.size := Array.length_toList
    omega
  have l1 := hl x1 (by simp)
  have l2 := hl x2 (by simp)
  have l3 := hl x3 (by simp)
  have l4 := hl x4 (by simp)
  have l5 := hl x5 (by simp)
  clear hl
  have HP := Lib.hid hP
  clear hP
  go_enter Tryd.func18, Tryd.ntmps18
  go_wp2_with fail
  refine HSp.out.mono ?_
  rintro e w1 ⟨rfl, rfl⟩
  have hk1 := (Below.heap_alloc (w.alloc (ruleObj default)) (.cells ([x0, x1, x2, x3, x4, x5].map Value.string).toArray 9) _ (lt_of_block hkz)).trans hkz
  have hkL := heap_alloc_new (w.alloc (ruleObj default)) (.cells ([x0, x1, x2, x3, x4, x5].map Value.string).toArray 9)
  have hb1 := hb0.alloc hb0.size (.cells ([x0, x1, x2, x3, x4, x5].map Value.string).toArray 9)
  have hE1 := hE.below hb1
  have hgL : w.heap.size ≠ (w.alloc (ruleObj default)).heap.size := by simp
  clear HSp hE0 hkz hb0
  generalize (w.alloc (ruleObj default)).heap.size = gL at *
  generalize (w.alloc (ruleObj default)).alloc (.cells ([x0, x1, x2, x3, x4, x5].map Value.string).toArray 9) = W at *
  have s0 := cells_str (k := 0) hkL rfl
  have s1 := cells_str (k := 1) hkL rfl
  have s2 := cells_str (k := 2) hkL rfl
  have s3 := cells_str (k := 3) hkL rfl
  have s4 := cells_str (k := 4) hkL rfl
  have s5 := cells_str (k := 5) hkL rfl
  have HK1 := Lib.hid hk1
  have HKL := Lib.hid hkL
  clear hk1 hkL
  have sz0 : w.heap.size < W.heap.size := lt_of_block HK1.out
  have hpm : (x0.toList == [112, 101, 114, 109, 105, 116]) = permR x0.data.toList := by rw [list_of, Bool.eq_iff_iff]; simp only [permR, permitW, beq_iff_eq]; exact ⟨fun h => decide_eq_true h, fun h => of_decide_eq_true h⟩
  have K4 := Lib.hid (show ∀ V : World, Below W.heap.size W V → Calls Tryd.prog 53 #[.string x4] V fun e V' => e = .returned (.agg #[.int .u32 (endsR x4.data.toList).1, .int .u32 (endsR x4.data.toList).2]) ∧ V'.cell? ⟨gL, 0, none⟩ = some (.string x0) ∧ V'.cell? ⟨gL, 4, none⟩ = some (.string x4) ∧ V'.cell? ⟨gL, 5, none⟩ = some (.string x5) ∧ Below W.heap.size W V' ∧ Below V.heap.size V V' from fun V h => (ends_any x4 l4 V (hE1.below h)).mono fun e V' ⟨he, hb⟩ => ⟨he, cell_kept (below_of (below_call h hb)) s0, cell_kept (below_of (below_call h hb)) s4, cell_kept (below_of (below_call h hb)) s5, below_call h hb, hb⟩)
  have K5 := Lib.hid (show ∀ V : World, Below W.heap.size W V → Calls Tryd.prog 53 #[.string x5] V fun e V' => e = .returned (.agg #[.int .u32 (endsR x5.data.toList).1, .int .u32 (endsR x5.data.toList).2]) ∧ V'.cell? ⟨gL, 0, none⟩ = some (.string x0) ∧ V'.cell? ⟨gL, 4, none⟩ = some (.string x4) ∧ V'.cell? ⟨gL, 5, none⟩ = some (.string x5) ∧ Below W.heap.size W V' ∧ Below V.heap.size V V' from fun V h => (ends_any x5 l5 V (hE1.below h)).mono fun e V' ⟨he, hb⟩ => ⟨he, cell_kept (below_of (below_call h hb)) s0, cell_kept (below_of (below_call h hb)) s4, cell_kept (below_of (below_call h hb)) s5, below_call h hb, hb⟩)
  go_upto_region 4 with fail
  go_cut [5] (fun sr wx => ∃ g : Nat, sr = .pointer (some ⟨g, 0, none⟩) ∧ W.heap.size ≤ g ∧ wx.heap[g]? = some (.cells #[.bool (permR x0.data.toList), .int .i64 (-1), .int .u32 0, .int .i64 0, .int .u32 0, .int .i64 0, .int .u32 (endsR x4.data.toList).1, .int .u32 (endsR x4.data.toList).2, .int .u32 (endsR x5.data.toList).1, .int .u32 (endsR x5.data.toList).2] 51 (0, 0)) ∧ Below W.heap.size W wx)
  case first =>
    have hbr := Below.refl W.heap.size W
    clear s1 s2 s3 HK1 HKL HP l1 l2 l3 l4 l5 hb1 hE1
    go_region_held3 (fun V => V.cell? ⟨gL, 0, none⟩ = some (.string x0) ∧ V.cell? ⟨gL, 4, none⟩ = some (.string x4) ∧ V.cell? ⟨gL, 5, none⟩ = some (.string x5) ∧ Below W.heap.size W V) ((refine keep3 s0 s4 s5 ?_; first | first | (with_reducible assumption) | (with_reducible exact below_drew (by with_reducible assumption)) | (with_reducible exact below_al (by with_reducible assumption)) | (with_reducible exact below_al (below_drew (by with_reducible assumption))) | (with_reducible exact below_drew (below_al (by with_reducible assumption))) | (with_reducible exact st10 (by first | (with_reducible assumption) | (with_reducible exact below_drew (by with_reducible assumption)) | (with_reducible exact below_al (by with_reducible assumption)) | (with_reducible exact below_al (below_drew (by with_reducible assumption))) | (with_reducible exact below_drew (below_al (by with_reducible assumption)))) (by first | exact Nat.le_refl _ | exact Below.size (by with_reducible assumption) | exact Below.size (below_drew (by with_reducible assumption))))))
      (first | (go_at_call 53; with_reducible refine (K4.out _ (by first | (with_reducible assumption) | (with_reducible exact below_drew (by with_reducible assumption)) | (with_reducible exact below_al (by with_reducible assumption)) | (with_reducible exact below_al (below_drew (by with_reducible assumption))) | (with_reducible exact below_drew (below_al (by with_reducible assumption))))).mono ?_; rintro e V' ⟨rfl, _, _, _, _, hbv⟩; (first | (have hq := blk_below hbv (heap_alloc_new _ _); obtain ⟨n0, n1, n2, n3, n4, n5, n6, n7, n8, n9⟩ := blk10 hq; have m0 := frozen_row hq 0; have m1 := frozen_row hq 1; have m2 := frozen_row hq 2; have m3 := frozen_row hq 3; have m4 := frozen_row hq 4; have m5 := frozen_row hq 5; have m6 := frozen_row hq 6; have m7 := frozen_row hq 7; have m8 := frozen_row hq 8; have m9 := frozen_row hq 9) | (have hq := blk_below hbv (heap_drew (heap_alloc_new _ _)); obtain ⟨n0, n1, n2, n3, n4, n5, n6, n7, n8, n9⟩ := blk10 hq; have m0 := frozen_row hq 0; have m1 := frozen_row hq 1; have m2 := frozen_row hq 2; have m3 := frozen_row hq 3; have m4 := frozen_row hq 4; have m5 := frozen_row hq 5; have m6 := frozen_row hq 6; have m7 := frozen_row hq 7; have m8 := frozen_row hq 8; have m9 := frozen_row hq 9) | (have hq := blk_below hbv (g := _) (o := (.cells #[.bool false, .int .i64 0, .int .u32 0, .int .i64 0, .int .u32 0, .int .i64 0, .int .u32 0, .int .u32 0, .int .u32 0, .int .u32 0] 51 (0, 0))) (by with_reducible assumption); obtain ⟨n0, n1, n2, n3, n4, n5, n6, n7, n8, n9⟩ := blk10 hq; have m0 := frozen_row hq 0; have m1 := frozen_row hq 1; have m2 := frozen_row hq 2; have m3 := frozen_row hq 3; have m4 := frozen_row hq 4; have m5 := frozen_row hq 5; have m6 := frozen_row hq 6; have m7 := frozen_row hq 7; have m8 := frozen_row hq 8; have m9 := frozen_row hq 9) | skip)) | (go_at_call 53; with_reducible refine (K5.out _ (by first | (with_reducible assumption) | (with_reducible exact below_drew (by with_reducible assumption)) | (with_reducible exact below_al (by with_reducible assumption)) | (with_reducible exact below_al (below_drew (by with_reducible assumption))) | (with_reducible exact below_drew (below_al (by with_reducible assumption))))).mono ?_; rintro e V' ⟨rfl, _, _, _, _, hbv⟩; (first | (have hq := blk_below hbv (heap_alloc_new _ _); obtain ⟨n0, n1, n2, n3, n4, n5, n6, n7, n8, n9⟩ := blk10 hq; have m0 := frozen_row hq 0; have m1 := frozen_row hq 1; have m2 := frozen_row hq 2; have m3 := frozen_row hq 3; have m4 := frozen_row hq 4; have m5 := frozen_row hq 5; have m6 := frozen_row hq 6; have m7 := frozen_row hq 7; have m8 := frozen_row hq 8; have m9 := frozen_row hq 9) | (have hq := blk_below hbv (heap_drew (heap_alloc_new _ _)); obtain ⟨n0, n1, n2, n3, n4, n5, n6, n7, n8, n9⟩ := blk10 hq; have m0 := frozen_row hq 0; have m1 := frozen_row hq 1; have m2 := frozen_row hq 2; have m3 := frozen_row hq 3; have m4 := frozen_row hq 4; have m5 := frozen_row hq 5; have m6 := frozen_row hq 6; have m7 := frozen_row hq 7; have m8 := frozen_row hq 8; have m9 := frozen_row hq 9) | (have hq := blk_below hbv (g := _) (o := (.cells #[.bool false, .int .i64 0, .int .u32 0, .int .i64 0, .int .u32 0, .int .i64 0, .int .u32 0, .int .u32 0, .int .u32 0, .int .u32 0] 51 (0, 0))) (by with_reducible assumption); obtain ⟨n0, n1, n2, n3, n4, n5, n6, n7, n8, n9⟩ := blk10 hq; have m0 := frozen_row hq 0; have m1 := frozen_row hq 1; have m2 := frozen_row hq 2; have m3 := frozen_row hq 3; have m4 := frozen_row hq 4; have m5 := frozen_row hq 5; have m6 := frozen_row hq 6; have m7 := frozen_row hq 7; have m8 := frozen_row hq 8; have m9 := frozen_row hq 9) | skip)))
    all_goals (go_wp2_with fail)
    all_goals go_meet
    · with_reducible refine fin1 ?_
      with_reducible assumption
    · with_reducible refine fin2 ?_ ?_ ?_
      · with_reducible assumption
      · with_reducible assumption
      · with_reducible refine Below.size (B := W.heap.size) ?_
        with_reducible assumption
    · with_reducible refine fin2 ?_ ?_ (Nat.le_refl _)
      · with_reducible assumption
      · with_reducible assumption
  case rest =>
    obtain ⟨gR, rfl, hgR, hkR, hbR⟩ := hcut
    have HS1 := Lib.hid s1
    have HS2 := Lib.hid s2
    have HS3 := Lib.hid s3
    clear K4 K5 s0 s1 s2 s3 s4 s5 hpm
    have s1 := cell_kept hbR HS1.out
    by_cases ha : x1.data.toList = anyW
    · have hq : (x1.toList == [97, 110, 121]) = true := by rw [list_of, ha]; rfl
      have hp1 : protoR x1.data.toList = some (-1) := by unfold protoR; rw [if_pos ha]
      have hO := candF_O (hpr := (by omega)) HP.out hp1
      have HO := Lib.hid hO
      have hEc := hE1.below hbR
      have t2 := cell_kept hbR HS2.out
      go_wp2_with fail
      refine (parsePrefix_any x2 wc hEc l2).mono ?_
      rintro e w3 ⟨rfl, hbx⟩
      have hk3 := blk_below hbx hkR
      have hb3 := hbR.trans (hbx.mono hbR.size)
      have hE3 := hE1.below hb3
      have t3 := cell_kept hb3 HS3.out
      obtain ⟨c0, c1, c2, c3, c4, c5, c6, c7, c8, c9⟩ := blk10 hk3
      have y0 := frozen_row hk3 0
      have y1 := frozen_row hk3 1
      have y2 := frozen_row hk3 2
      have y3 := frozen_row hk3 3
      have y4 := frozen_row hk3 4
      have y5 := frozen_row hk3 5
      have y6 := frozen_row hk3 6
      have y7 := frozen_row hk3 7
      have y8 := frozen_row hk3 8
      have y9 := frozen_row hk3 9
      have HK3 := Lib.hid hk3
      clear hbx t2 hEc hk3
      have hb4 := (hb3.setCell (p := ⟨gR, 2, none⟩) hgR (.int .u32 (ppA x2.data.toList))).setCell (p := ⟨gR, 3, none⟩) hgR (.int .i64 (ppN x2.data.toList))
      have hk4 := rset3 (u := .int .i64 (ppN x2.data.toList)) (rset2 (u := .int .u32 (ppA x2.data.toList)) HK3.out)
      have hE4 := hE1.below hb4
      have t4 := cell_kept hb4 HS3.out
      go_wp2_with fail
      clear c0 c1 c2 c3 c4 c5 c6 c7 c8 c9 y0 y1 y2 y3 y4 y5 y6 y7 y8 y9 t3 HK3
      generalize (w3.setCell ⟨gR, 2, none⟩ (.int .u32 (ppA x2.data.toList))).setCell ⟨gR, 3, none⟩ (.int .i64 (ppN x2.data.toList)) = W4 at *
      refine (parsePrefix_any x3 W4 hE4 l3).mono ?_
      rintro e w5 ⟨rfl, hbx⟩
      have hk5 := blk_below hbx hk4
      have hb5 := hb4.trans (hbx.mono hb4.size)
      obtain ⟨c0, c1, c2, c3, c4, c5, c6, c7, c8, c9⟩ := blk10 hk5
      have y0 := frozen_row hk5 0
      have y1 := frozen_row hk5 1
      have y2 := frozen_row hk5 2
      have y3 := frozen_row hk5 3
      have y4 := frozen_row hk5 4
      have y5 := frozen_row hk5 5
      have y6 := frozen_row hk5 6
      have y7 := frozen_row hk5 7
      have y8 := frozen_row hk5 8
      have y9 := frozen_row hk5 9
      have HK5 := Lib.hid hk5
      clear hbx t4 hk4 hb4 hE4 hk5 hb3 hE3
      have hb6 := (hb5.setCell (p := ⟨gR, 4, none⟩) hgR (.int .u32 (ppA x3.data.toList))).setCell (p := ⟨gR, 5, none⟩) hgR (.int .i64 (ppN x3.data.toList))
      have hk6 : ((w5.setCell ⟨gR, 4, none⟩ (.int .u32 (ppA x3.data.toList))).setCell ⟨gR, 5, none⟩ (.int .i64 (ppN x3.data.toList))).heap[gR]? = some (ruleObj (candF x0.data.toList x2.data.toList x3.data.toList x4.data.toList x5.data.toList (-1) (by omega))) := rset5 (u := .int .i64 (ppN x3.data.toList)) (rset4 (u := .int .u32 (ppA x3.data.toList)) HK5.out)
      have hE6 := hE1.below hb6
      obtain ⟨g0, g1, g2, g3, g4, g5, g6, g7, g8, g9⟩ := rule_blk (r := (candF x0.data.toList x2.data.toList x3.data.toList x4.data.toList x5.data.toList (-1) (by omega))) hk6
      have hT := ftText_any (candF x0.data.toList x2.data.toList x3.data.toList x4.data.toList x5.data.toList (-1) (by omega)) _ hE6
      have HT := Lib.hid hT
      go_upto_region 99 with fail
      clear c0 c1 c2 c3 c4 c5 c6 c7 c8 c9 y0 y1 y2 y3 y4 y5 y6 y7 y8 y9 HK5 HT
      generalize (w5.setCell ⟨gR, 4, none⟩ (.int .u32 (ppA x3.data.toList))).setCell ⟨gR, 5, none⟩ (.int .i64 (ppN x3.data.toList)) = W6 at *
      by_cases q1 : ppE x2.data.toList = 0
      · by_cases q2 : ppE x3.data.toList = 0
        · cases q3 : mayB (candF x0.data.toList x2.data.toList x3.data.toList x4.data.toList x5.data.toList (-1) (by omega)) with
          | true =>
            by_cases q4 : (candF x0.data.toList x2.data.toList x3.data.toList x4.data.toList x5.data.toList (-1) (by omega)).text = s.data.toList
            · have d1 : (ppE x2.data.toList != 0) = false := by simpa using q1
              have d2 : (ppE x3.data.toList != 0) = false := by simpa using q2
              rw [(told_yes q3).1, (told_yes q3).2] at hT
              have hq : ((⟨(candF x0.data.toList x2.data.toList x3.data.toList x4.data.toList x5.data.toList (-1) (by omega)).text.toArray⟩ : ByteArray).toList == s.toList) = true := by rw [list_of, list_of]; simp [q4]
              generalize (⟨(candF x0.data.toList x2.data.toList x3.data.toList x4.data.toList x5.data.toList (-1) (by omega)).text.toArray⟩ : ByteArray) = q at *
              have HT := Lib.hid hT
              clear hT g0 g1 g2 g3 g4 g5 g6 g7 g8 g9
              refine HT.out.mono ?_
              rintro e w7 ⟨rfl, hbx⟩
              have hk7 := blk_below hbx hk6
              have hbW := hb6.trans (hbx.mono hb6.size)
              clear hbx hk6 hb6 hE6
              have hz := Lib.hid (fr_some (by rw [HO.out, if_pos ⟨q1, q2, q3, q4⟩]))
              obtain ⟨g0, g1, g2, g3, g4, g5, g6, g7, g8, g9⟩ := rule_blk (r := (candF x0.data.toList x2.data.toList x3.data.toList x4.data.toList x5.data.toList (-1) (by omega))) hk7
              have hk0 := (hbW.block _ sz0).trans HK1.out
              obtain ⟨d0, d1, d2, d3, d4, d5, d6, d7, d8, d9⟩ := blk10 hk0
              have z0 := frozen_row hk0 0
              have z1 := frozen_row hk0 1
              have z2 := frozen_row hk0 2
              have z3 := frozen_row hk0 3
              have z4 := frozen_row hk0 4
              have z5 := frozen_row hk0 5
              have z6 := frozen_row hk0 6
              have z7 := frozen_row hk0 7
              have z8 := frozen_row hk0 8
              have z9 := frozen_row hk0 9
              have HK0 := Lib.hid hk0
              have hbw := hb1.trans (hbW.mono hb1.size)
              clear hk0
              clear hk7
              go_wp2
              exact bodyPost_ret (results_r (t1 := 2) (t3 := 3) (g := w.heap.size) (r := (candF x0.data.toList x2.data.toList x3.data.toList x4.data.toList x5.data.toList (-1) (by omega))) Tryd.results18 rfl rfl (rset9 (rset8 (rset7 (rset6 (rset5 (rset4 (rset3 (rset2 (rset1 (rset0 HK0.out))))))))))) rfl ⟨by rw [hz.out.1, hz.out.2]; rfl, ((((((((((hbw.setCell (Nat.le_refl _) _).setCell (Nat.le_refl _) _).setCell (Nat.le_refl _) _).setCell (Nat.le_refl _) _).setCell (Nat.le_refl _) _).setCell (Nat.le_refl _) _).setCell (Nat.le_refl _) _).setCell (Nat.le_refl _) _).setCell (Nat.le_refl _) _).setCell (Nat.le_refl _) _)⟩
            · have d1 : (ppE x2.data.toList != 0) = false := by simpa using q1
              have d2 : (ppE x3.data.toList != 0) = false := by simpa using q2
              rw [(told_yes q3).1, (told_yes q3).2] at hT
              have hq : ((⟨(candF x0.data.toList x2.data.toList x3.data.toList x4.data.toList x5.data.toList (-1) (by omega)).text.toArray⟩ : ByteArray).toList == s.toList) = false := by rw [list_of, list_of]; simpa using q4
              generalize (⟨(candF x0.data.toList x2.data.toList x3.data.toList x4.data.toList x5.data.toList (-1) (by omega)).text.toArray⟩ : ByteArray) = q at *
              have HT := Lib.hid hT
              clear hT g0 g1 g2 g3 g4 g5 g6 g7 g8 g9
              refine HT.out.mono ?_
              rintro e w7 ⟨rfl, hbx⟩
              have hk7 := blk_below hbx hk6
              have hbW := hb6.trans (hbx.mono hb6.size)
              clear hbx hk6 hb6 hE6
              have hz := Lib.hid (fr_none (by rw [HO.out, if_neg (fun h => q4 h.2.2.2)]))
              have hk0 := (hbW.block _ sz0).trans HK1.out
              obtain ⟨d0, d1, d2, d3, d4, d5, d6, d7, d8, d9⟩ := blk10 hk0
              have z0 := frozen_row hk0 0
              have z1 := frozen_row hk0 1
              have z2 := frozen_row hk0 2
              have z3 := frozen_row hk0 3
              have z4 := frozen_row hk0 4
              have z5 := frozen_row hk0 5
              have z6 := frozen_row hk0 6
              have z7 := frozen_row hk0 7
              have z8 := frozen_row hk0 8
              have z9 := frozen_row hk0 9
              have HK0 := Lib.hid hk0
              have hbw := hb1.trans (hbW.mono hb1.size)
              clear hk0
              clear hk7
              go_wp2
              exact bodyPost_ret (results_r (t1 := 2) (t3 := 3) (g := w.heap.size) (r := default) Tryd.results18 rfl rfl (rset9 (rset8 (rset7 (rset6 (rset5 (rset4 (rset3 (rset2 (rset1 (rset0 HK0.out))))))))))) rfl ⟨by rw [hz.out.1, hz.out.2]; rfl, ((((((((((hbw.setCell (Nat.le_refl _) _).setCell (Nat.le_refl _) _).setCell (Nat.le_refl _) _).setCell (Nat.le_refl _) _).setCell (Nat.le_refl _) _).setCell (Nat.le_refl _) _).setCell (Nat.le_refl _) _).setCell (Nat.le_refl _) _).setCell (Nat.le_refl _) _).setCell (Nat.le_refl _) _)⟩
          | false =>
            have d1 : (ppE x2.data.toList != 0) = false := by simpa using q1
            have d2 : (ppE x3.data.toList != 0) = false := by simpa using q2
            rw [(told_no q3).1, (told_no q3).2] at hT
            have HT := Lib.hid hT
            clear hT g0 g1 g2 g3 g4 g5 g6 g7 g8 g9
            refine HT.out.mono ?_
            rintro e w7 ⟨rfl, hbx⟩
            have hk7 := blk_below hbx hk6
            have hbW := hb6.trans (hbx.mono hb6.size)
            clear hbx hk6 hb6 hE6
            have hz := Lib.hid (fr_none (by rw [HO.out, if_neg (fun h => by rw [q3] at h; exact absurd h.2.2.1 (by decide))]))
            have hk0 := (hbW.block _ sz0).trans HK1.out
            obtain ⟨d0, d1, d2, d3, d4, d5, d6, d7, d8, d9⟩ := blk10 hk0
            have z0 := frozen_row hk0 0
            have z1 := frozen_row hk0 1
            have z2 := frozen_row hk0 2
            have z3 := frozen_row hk0 3
            have z4 := frozen_row hk0 4
            have z5 := frozen_row hk0 5
            have z6 := frozen_row hk0 6
            have z7 := frozen_row hk0 7
            have z8 := frozen_row hk0 8
            have z9 := frozen_row hk0 9
            have HK0 := Lib.hid hk0
            have hbw := hb1.trans (hbW.mono hb1.size)
            clear hk0
            clear hk7
            go_wp2
            exact bodyPost_ret (results_r (t1 := 2) (t3 := 3) (g := w.heap.size) (r := default) Tryd.results18 rfl rfl (rset9 (rset8 (rset7 (rset6 (rset5 (rset4 (rset3 (rset2 (rset1 (rset0 HK0.out))))))))))) rfl ⟨by rw [hz.out.1, hz.out.2]; rfl, ((((((((((hbw.setCell (Nat.le_refl _) _).setCell (Nat.le_refl _) _).setCell (Nat.le_refl _) _).setCell (Nat.le_refl _) _).setCell (Nat.le_refl _) _).setCell (Nat.le_refl _) _).setCell (Nat.le_refl _) _).setCell (Nat.le_refl _) _).setCell (Nat.le_refl _) _).setCell (Nat.le_refl _) _)⟩
        · have d1 : (ppE x2.data.toList != 0) = false := by simpa using q1
          have d2 : (ppE x3.data.toList != 0) = true := by simpa using q2
          have HT := Lib.hid hT
          clear hT g0 g1 g2 g3 g4 g5 g6 g7 g8 g9
          refine HT.out.mono ?_
          rintro e w7 ⟨rfl, hbx⟩
          have hk7 := blk_below hbx hk6
          have hbW := hb6.trans (hbx.mono hb6.size)
          clear hbx hk6 hb6 hE6
          have hz := Lib.hid (fr_none (by rw [HO.out, if_neg (fun h => q2 h.2.1)]))
          have hk0 := (hbW.block _ sz0).trans HK1.out
          obtain ⟨d0, d1, d2, d3, d4, d5, d6, d7, d8, d9⟩ := blk10 hk0
          have z0 := frozen_row hk0 0
          have z1 := frozen_row hk0 1
          have z2 := frozen_row hk0 2
          have z3 := frozen_row hk0 3
          have z4 := frozen_row hk0 4
          have z5 := frozen_row hk0 5
          have z6 := frozen_row hk0 6
          have z7 := frozen_row hk0 7
          have z8 := frozen_row hk0 8
          have z9 := frozen_row hk0 9
          have HK0 := Lib.hid hk0
          have hbw := hb1.trans (hbW.mono hb1.size)
          clear hk0
          clear hk7
          go_wp2
          exact bodyPost_ret (results_r (t1 := 2) (t3 := 3) (g := w.heap.size) (r := default) Tryd.results18 rfl rfl (rset9 (rset8 (rset7 (rset6 (rset5 (rset4 (rset3 (rset2 (rset1 (rset0 HK0.out))))))))))) rfl ⟨by rw [hz.out.1, hz.out.2]; rfl, ((((((((((hbw.setCell (Nat.le_refl _) _).setCell (Nat.le_refl _) _).setCell (Nat.le_refl _) _).setCell (Nat.le_refl _) _).setCell (Nat.le_refl _) _).setCell (Nat.le_refl _) _).setCell (Nat.le_refl _) _).setCell (Nat.le_refl _) _).setCell (Nat.le_refl _) _).setCell (Nat.le_refl _) _)⟩
      · have d1 : (ppE x2.data.toList != 0) = true := by simpa using q1
        have HT := Lib.hid hT
        clear hT g0 g1 g2 g3 g4 g5 g6 g7 g8 g9
        refine HT.out.mono ?_
        rintro e w7 ⟨rfl, hbx⟩
        have hk7 := blk_below hbx hk6
        have hbW := hb6.trans (hbx.mono hb6.size)
        clear hbx hk6 hb6 hE6
        have hz := Lib.hid (fr_none (by rw [HO.out, if_neg (fun h => q1 h.1)]))
        have hk0 := (hbW.block _ sz0).trans HK1.out
        obtain ⟨d0, d1, d2, d3, d4, d5, d6, d7, d8, d9⟩ := blk10 hk0
        have z0 := frozen_row hk0 0
        have z1 := frozen_row hk0 1
        have z2 := frozen_row hk0 2
        have z3 := frozen_row hk0 3
        have z4 := frozen_row hk0 4
        have z5 := frozen_row hk0 5
        have z6 := frozen_row hk0 6
        have z7 := frozen_row hk0 7
        have z8 := frozen_row hk0 8
        have z9 := frozen_row hk0 9
        have HK0 := Lib.hid hk0
        have hbw := hb1.trans (hbW.mono hb1.size)
        clear hk0
        clear hk7
        go_wp2
        exact bodyPost_ret (results_r (t1 := 2) (t3 := 3) (g := w.heap.size) (r := default) Tryd.results18 rfl rfl (rset9 (rset8 (rset7 (rset6 (rset5 (rset4 (rset3 (rset2 (rset1 (rset0 HK0.out))))))))))) rfl ⟨by rw [hz.out.1, hz.out.2]; rfl, ((((((((((hbw.setCell (Nat.le_refl _) _).setCell (Nat.le_refl _) _).setCell (Nat.le_refl _) _).setCell (Nat.le_refl _) _).setCell (Nat.le_refl _) _).setCell (Nat.le_refl _) _).setCell (Nat.le_refl _) _).setCell (Nat.le_refl _) _).setCell (Nat.le_refl _) _).setCell (Nat.le_refl _) _)⟩
    · have hq : (x1.toList == [97, 110, 121]) = false := by rw [list_of]; simpa [anyW] using ha
      by_cases hu : ∃ n, Lib.parseUintB 8 x1.data.toList = .ok n
      · obtain ⟨n, hu⟩ := hu
        have hp1 : protoR x1.data.toList = some (n : Int) := by unfold protoR; rw [if_neg ha, hu]
        have un := uint8_le hu
        go_wp2_with fail
        refine (uint8_yes x1 l1 n hu wc).mono ?_
        rintro e wu ⟨rfl, hbx⟩
        have hku := blk_below hbx hkR
        have hbu := hbR.trans (hbx.mono hbR.size)
        obtain ⟨c0, c1, c2, c3, c4, c5, c6, c7, c8, c9⟩ := blk10 hku
        have y0 := frozen_row hku 0
        have y1 := frozen_row hku 1
        have y2 := frozen_row hku 2
        have y3 := frozen_row hku 3
        have y4 := frozen_row hku 4
        have y5 := frozen_row hku 5
        have y6 := frozen_row hku 6
        have y7 := frozen_row hku 7
        have y8 := frozen_row hku 8
        have y9 := frozen_row hku 9
        have HKU := Lib.hid hku
        have hkp := rset1 (u := .int .i64 (n : Int)) HKU.out
        have hbp := hbu.setCell (p := ⟨gR, 1, none⟩) hgR (.int .i64 (n : Int))
        clear hbx hku hkR hbR hbu s1
        have hO := candF_O (hpr := (by omega)) HP.out hp1
        have HO := Lib.hid hO
        have hEc := hE1.below hbp
        have t2 := cell_kept hbp HS2.out
        go_wp2_with fail
        clear c0 c1 c2 c3 c4 c5 c6 c7 c8 c9 y0 y1 y2 y3 y4 y5 y6 y7 y8 y9 HKU
        generalize wu.setCell ⟨gR, 1, none⟩ (.int .i64 (n : Int)) = wp at *
        refine (parsePrefix_any x2 wp hEc l2).mono ?_
        rintro e w3 ⟨rfl, hbx⟩
        have hk3 := blk_below hbx hkp
        have hb3 := hbp.trans (hbx.mono hbp.size)
        have hE3 := hE1.below hb3
        have t3 := cell_kept hb3 HS3.out
        obtain ⟨c0, c1, c2, c3, c4, c5, c6, c7, c8, c9⟩ := blk10 hk3
        have y0 := frozen_row hk3 0
        have y1 := frozen_row hk3 1
        have y2 := frozen_row hk3 2
        have y3 := frozen_row hk3 3
        have y4 := frozen_row hk3 4
        have y5 := frozen_row hk3 5
        have y6 := frozen_row hk3 6
        have y7 := frozen_row hk3 7
        have y8 := frozen_row hk3 8
        have y9 := frozen_row hk3 9
        have HK3 := Lib.hid hk3
        clear hbx t2 hEc hk3
        have hb4 := (hb3.setCell (p := ⟨gR, 2, none⟩) hgR (.int .u32 (ppA x2.data.toList))).setCell (p := ⟨gR, 3, none⟩) hgR (.int .i64 (ppN x2.data.toList))
        have hk4 := rset3 (u := .int .i64 (ppN x2.data.toList)) (rset2 (u := .int .u32 (ppA x2.data.toList)) HK3.out)
        have hE4 := hE1.below hb4
        have t4 := cell_kept hb4 HS3.out
        go_wp2_with fail
        clear c0 c1 c2 c3 c4 c5 c6 c7 c8 c9 y0 y1 y2 y3 y4 y5 y6 y7 y8 y9 t3 HK3
        generalize (w3.setCell ⟨gR, 2, none⟩ (.int .u32 (ppA x2.data.toList))).setCell ⟨gR, 3, none⟩ (.int .i64 (ppN x2.data.toList)) = W4 at *
        refine (parsePrefix_any x3 W4 hE4 l3).mono ?_
        rintro e w5 ⟨rfl, hbx⟩
        have hk5 := blk_below hbx hk4
        have hb5 := hb4.trans (hbx.mono hb4.size)
        obtain ⟨c0, c1, c2, c3, c4, c5, c6, c7, c8, c9⟩ := blk10 hk5
        have y0 := frozen_row hk5 0
        have y1 := frozen_row hk5 1
        have y2 := frozen_row hk5 2
        have y3 := frozen_row hk5 3
        have y4 := frozen_row hk5 4
        have y5 := frozen_row hk5 5
        have y6 := frozen_row hk5 6
        have y7 := frozen_row hk5 7
        have y8 := frozen_row hk5 8
        have y9 := frozen_row hk5 9
        have HK5 := Lib.hid hk5
        clear hbx t4 hk4 hb4 hE4 hk5 hb3 hE3
        have hb6 := (hb5.setCell (p := ⟨gR, 4, none⟩) hgR (.int .u32 (ppA x3.data.toList))).setCell (p := ⟨gR, 5, none⟩) hgR (.int .i64 (ppN x3.data.toList))
        have hk6 : ((w5.setCell ⟨gR, 4, none⟩ (.int .u32 (ppA x3.data.toList))).setCell ⟨gR, 5, none⟩ (.int .i64 (ppN x3.data.toList))).heap[gR]? = some (ruleObj (candF x0.data.toList x2.data.toList x3.data.toList x4.data.toList x5.data.toList (n : Int) (by omega))) := rset5 (u := .int .i64 (ppN x3.data.toList)) (rset4 (u := .int .u32 (ppA x3.data.toList)) HK5.out)
        have hE6 := hE1.below hb6
        obtain ⟨g0, g1, g2, g3, g4, g5, g6, g7, g8, g9⟩ := rule_blk (r := (candF x0.data.toList x2.data.toList x3.data.toList x4.data.toList x5.data.toList (n : Int) (by omega))) hk6
        have hT := ftText_any (candF x0.data.toList x2.data.toList x3.data.toList x4.data.toList x5.data.toList (n : Int) (by omega)) _ hE6
        have HT := Lib.hid hT
        go_upto_region 99 with fail
        clear c0 c1 c2 c3 c4 c5 c6 c7 c8 c9 y0 y1 y2 y3 y4 y5 y6 y7 y8 y9 HK5 HT
        generalize (w5.setCell ⟨gR, 4, none⟩ (.int .u32 (ppA x3.data.toList))).setCell ⟨gR, 5, none⟩ (.int .i64 (ppN x3.data.toList)) = W6 at *
        by_cases q1 : ppE x2.data.toList = 0
        · by_cases q2 : ppE x3.data.toList = 0
          · cases q3 : mayB (candF x0.data.toList x2.data.toList x3.data.toList x4.data.toList x5.data.toList (n : Int) (by omega)) with
            | true =>
              by_cases q4 : (candF x0.data.toList x2.data.toList x3.data.toList x4.data.toList x5.data.toList (n : Int) (by omega)).text = s.data.toList
              · have d1 : (ppE x2.data.toList != 0) = false := by simpa using q1
                have d2 : (ppE x3.data.toList != 0) = false := by simpa using q2
                rw [(told_yes q3).1, (told_yes q3).2] at hT
                have hq : ((⟨(candF x0.data.toList x2.data.toList x3.data.toList x4.data.toList x5.data.toList (n : Int) (by omega)).text.toArray⟩ : ByteArray).toList == s.toList) = true := by rw [list_of, list_of]; simp [q4]
                generalize (⟨(candF x0.data.toList x2.data.toList x3.data.toList x4.data.toList x5.data.toList (n : Int) (by omega)).text.toArray⟩ : ByteArray) = q at *
                have HT := Lib.hid hT
                clear hT g0 g1 g2 g3 g4 g5 g6 g7 g8 g9
                refine HT.out.mono ?_
                rintro e w7 ⟨rfl, hbx⟩
                have hk7 := blk_below hbx hk6
                have hbW := hb6.trans (hbx.mono hb6.size)
                clear hbx hk6 hb6 hE6
                have hz := Lib.hid (fr_some (by rw [HO.out, if_pos ⟨q1, q2, q3, q4⟩]))
                obtain ⟨g0, g1, g2, g3, g4, g5, g6, g7, g8, g9⟩ := rule_blk (r := (candF x0.data.toList x2.data.toList x3.data.toList x4.data.toList x5.data.toList (n : Int) (by omega))) hk7
                have hk0 := (hbW.block _ sz0).trans HK1.out
                obtain ⟨d0, d1, d2, d3, d4, d5, d6, d7, d8, d9⟩ := blk10 hk0
                have z0 := frozen_row hk0 0
                have z1 := frozen_row hk0 1
                have z2 := frozen_row hk0 2
                have z3 := frozen_row hk0 3
                have z4 := frozen_row hk0 4
                have z5 := frozen_row hk0 5
                have z6 := frozen_row hk0 6
                have z7 := frozen_row hk0 7
                have z8 := frozen_row hk0 8
                have z9 := frozen_row hk0 9
                have HK0 := Lib.hid hk0
                have hbw := hb1.trans (hbW.mono hb1.size)
                clear hk0
                clear hk7
                go_wp2
                exact bodyPost_ret (results_r (t1 := 2) (t3 := 3) (g := w.heap.size) (r := (candF x0.data.toList x2.data.toList x3.data.toList x4.data.toList x5.data.toList (n : Int) (by omega))) Tryd.results18 rfl rfl (rset9 (rset8 (rset7 (rset6 (rset5 (rset4 (rset3 (rset2 (rset1 (rset0 HK0.out))))))))))) rfl ⟨by rw [hz.out.1, hz.out.2]; rfl, ((((((((((hbw.setCell (Nat.le_refl _) _).setCell (Nat.le_refl _) _).setCell (Nat.le_refl _) _).setCell (Nat.le_refl _) _).setCell (Nat.le_refl _) _).setCell (Nat.le_refl _) _).setCell (Nat.le_refl _) _).setCell (Nat.le_refl _) _).setCell (Nat.le_refl _) _).setCell (Nat.le_refl _) _)⟩
              · have d1 : (ppE x2.data.toList != 0) = false := by simpa using q1
                have d2 : (ppE x3.data.toList != 0) = false := by simpa using q2
                rw [(told_yes q3).1, (told_yes q3).2] at hT
                have hq : ((⟨(candF x0.data.toList x2.data.toList x3.data.toList x4.data.toList x5.data.toList (n : Int) (by omega)).text.toArray⟩ : ByteArray).toList == s.toList) = false := by rw [list_of, list_of]; simpa using q4
                generalize (⟨(candF x0.data.toList x2.data.toList x3.data.toList x4.data.toList x5.data.toList (n : Int) (by omega)).text.toArray⟩ : ByteArray) = q at *
                have HT := Lib.hid hT
                clear hT g0 g1 g2 g3 g4 g5 g6 g7 g8 g9
                refine HT.out.mono ?_
                rintro e w7 ⟨rfl, hbx⟩
                have hk7 := blk_below hbx hk6
                have hbW := hb6.trans (hbx.mono hb6.size)
                clear hbx hk6 hb6 hE6
                have hz := Lib.hid (fr_none (by rw [HO.out, if_neg (fun h => q4 h.2.2.2)]))
                have hk0 := (hbW.block _ sz0).trans HK1.out
                obtain ⟨d0, d1, d2, d3, d4, d5, d6, d7, d8, d9⟩ := blk10 hk0
                have z0 := frozen_row hk0 0
                have z1 := frozen_row hk0 1
                have z2 := frozen_row hk0 2
                have z3 := frozen_row hk0 3
                have z4 := frozen_row hk0 4
                have z5 := frozen_row hk0 5
                have z6 := frozen_row hk0 6
                have z7 := frozen_row hk0 7
                have z8 := frozen_row hk0 8
                have z9 := frozen_row hk0 9
                have HK0 := Lib.hid hk0
                have hbw := hb1.trans (hbW.mono hb1.size)
                clear hk0
                clear hk7
                go_wp2
                exact bodyPost_ret (results_r (t1 := 2) (t3 := 3) (g := w.heap.size) (r := default) Tryd.results18 rfl rfl (rset9 (rset8 (rset7 (rset6 (rset5 (rset4 (rset3 (rset2 (rset1 (rset0 HK0.out))))))))))) rfl ⟨by rw [hz.out.1, hz.out.2]; rfl, ((((((((((hbw.setCell (Nat.le_refl _) _).setCell (Nat.le_refl _) _).setCell (Nat.le_refl _) _).setCell (Nat.le_refl _) _).setCell (Nat.le_refl _) _).setCell (Nat.le_refl _) _).setCell (Nat.le_refl _) _).setCell (Nat.le_refl _) _).setCell (Nat.le_refl _) _).setCell (Nat.le_refl _) _)⟩
            | false =>
              have d1 : (ppE x2.data.toList != 0) = false := by simpa using q1
              have d2 : (ppE x3.data.toList != 0) = false := by simpa using q2
              rw [(told_no q3).1, (told_no q3).2] at hT
              have HT := Lib.hid hT
              clear hT g0 g1 g2 g3 g4 g5 g6 g7 g8 g9
              refine HT.out.mono ?_
              rintro e w7 ⟨rfl, hbx⟩
              have hk7 := blk_below hbx hk6
              have hbW := hb6.trans (hbx.mono hb6.size)
              clear hbx hk6 hb6 hE6
              have hz := Lib.hid (fr_none (by rw [HO.out, if_neg (fun h => by rw [q3] at h; exact absurd h.2.2.1 (by decide))]))
              have hk0 := (hbW.block _ sz0).trans HK1.out
              obtain ⟨d0, d1, d2, d3, d4, d5, d6, d7, d8, d9⟩ := blk10 hk0
              have z0 := frozen_row hk0 0
              have z1 := frozen_row hk0 1
              have z2 := frozen_row hk0 2
              have z3 := frozen_row hk0 3
              have z4 := frozen_row hk0 4
              have z5 := frozen_row hk0 5
              have z6 := frozen_row hk0 6
              have z7 := frozen_row hk0 7
              have z8 := frozen_row hk0 8
              have z9 := frozen_row hk0 9
              have HK0 := Lib.hid hk0
              have hbw := hb1.trans (hbW.mono hb1.size)
              clear hk0
              clear hk7
              go_wp2
              exact bodyPost_ret (results_r (t1 := 2) (t3 := 3) (g := w.heap.size) (r := default) Tryd.results18 rfl rfl (rset9 (rset8 (rset7 (rset6 (rset5 (rset4 (rset3 (rset2 (rset1 (rset0 HK0.out))))))))))) rfl ⟨by rw [hz.out.1, hz.out.2]; rfl, ((((((((((hbw.setCell (Nat.le_refl _) _).setCell (Nat.le_refl _) _).setCell (Nat.le_refl _) _).setCell (Nat.le_refl _) _).setCell (Nat.le_refl _) _).setCell (Nat.le_refl _) _).setCell (Nat.le_refl _) _).setCell (Nat.le_refl _) _).setCell (Nat.le_refl _) _).setCell (Nat.le_refl _) _)⟩
          · have d1 : (ppE x2.data.toList != 0) = false := by simpa using q1
            have d2 : (ppE x3.data.toList != 0) = true := by simpa using q2
            have HT := Lib.hid hT
            clear hT g0 g1 g2 g3 g4 g5 g6 g7 g8 g9
            refine HT.out.mono ?_
            rintro e w7 ⟨rfl, hbx⟩
            have hk7 := blk_below hbx hk6
            have hbW := hb6.trans (hbx.mono hb6.size)
            clear hbx hk6 hb6 hE6
            have hz := Lib.hid (fr_none (by rw [HO.out, if_neg (fun h => q2 h.2.1)]))
            have hk0 := (hbW.block _ sz0).trans HK1.out
            obtain ⟨d0, d1, d2, d3, d4, d5, d6, d7, d8, d9⟩ := blk10 hk0
            have z0 := frozen_row hk0 0
            have z1 := frozen_row hk0 1
            have z2 := frozen_row hk0 2
            have z3 := frozen_row hk0 3
            have z4 := frozen_row hk0 4
            have z5 := frozen_row hk0 5
            have z6 := frozen_row hk0 6
            have z7 := frozen_row hk0 7
            have z8 := frozen_row hk0 8
            have z9 := frozen_row hk0 9
            have HK0 := Lib.hid hk0
            have hbw := hb1.trans (hbW.mono hb1.size)
            clear hk0
            clear hk7
            go_wp2
            exact bodyPost_ret (results_r (t1 := 2) (t3 := 3) (g := w.heap.size) (r := default) Tryd.results18 rfl rfl (rset9 (rset8 (rset7 (rset6 (rset5 (rset4 (rset3 (rset2 (rset1 (rset0 HK0.out))))))))))) rfl ⟨by rw [hz.out.1, hz.out.2]; rfl, ((((((((((hbw.setCell (Nat.le_refl _) _).setCell (Nat.le_refl _) _).setCell (Nat.le_refl _) _).setCell (Nat.le_refl _) _).setCell (Nat.le_refl _) _).setCell (Nat.le_refl _) _).setCell (Nat.le_refl _) _).setCell (Nat.le_refl _) _).setCell (Nat.le_refl _) _).setCell (Nat.le_refl _) _)⟩
        · have d1 : (ppE x2.data.toList != 0) = true := by simpa using q1
          have HT := Lib.hid hT
          clear hT g0 g1 g2 g3 g4 g5 g6 g7 g8 g9
          refine HT.out.mono ?_
          rintro e w7 ⟨rfl, hbx⟩
          have hk7 := blk_below hbx hk6
          have hbW := hb6.trans (hbx.mono hb6.size)
          clear hbx hk6 hb6 hE6
          have hz := Lib.hid (fr_none (by rw [HO.out, if_neg (fun h => q1 h.1)]))
          have hk0 := (hbW.block _ sz0).trans HK1.out
          obtain ⟨d0, d1, d2, d3, d4, d5, d6, d7, d8, d9⟩ := blk10 hk0
          have z0 := frozen_row hk0 0
          have z1 := frozen_row hk0 1
          have z2 := frozen_row hk0 2
          have z3 := frozen_row hk0 3
          have z4 := frozen_row hk0 4
          have z5 := frozen_row hk0 5
          have z6 := frozen_row hk0 6
          have z7 := frozen_row hk0 7
          have z8 := frozen_row hk0 8
          have z9 := frozen_row hk0 9
          have HK0 := Lib.hid hk0
          have hbw := hb1.trans (hbW.mono hb1.size)
          clear hk0
          clear hk7
          go_wp2
          exact bodyPost_ret (results_r (t1 := 2) (t3 := 3) (g := w.heap.size) (r := default) Tryd.results18 rfl rfl (rset9 (rset8 (rset7 (rset6 (rset5 (rset4 (rset3 (rset2 (rset1 (rset0 HK0.out))))))))))) rfl ⟨by rw [hz.out.1, hz.out.2]; rfl, ((((((((((hbw.setCell (Nat.le_refl _) _).setCell (Nat.le_refl _) _).setCell (Nat.le_refl _) _).setCell (Nat.le_refl _) _).setCell (Nat.le_refl _) _).setCell (Nat.le_refl _) _).setCell (Nat.le_refl _) _).setCell (Nat.le_refl _) _).setCell (Nat.le_refl _) _).setCell (Nat.le_refl _) _)⟩
      · have hu : ∀ n, Lib.parseUintB 8 x1.data.toList ≠ .ok n := fun n e => hu ⟨n, e⟩
        have hp1 : protoR x1.data.toList = none := by
          unfold protoR
          rw [if_neg ha]
          split
          · rename_i e; exact absurd e (hu _)
          · rfl
        go_wp2_with fail
        refine (uint8_no x1 l1 hu wc (hE1.below hbR)).mono ?_
        rintro e wu ⟨⟨xu, tq, qq, rfl, gu0, gu1⟩, hbx⟩
        have hbW := hbR.trans (hbx.mono hbR.size)
        have hz := Lib.hid (fr_none (frO_proto HP.out hp1))
        clear hbx hkR hbR s1
        have hk0 := (hbW.block _ sz0).trans HK1.out
        obtain ⟨d0, d1, d2, d3, d4, d5, d6, d7, d8, d9⟩ := blk10 hk0
        have z0 := frozen_row hk0 0
        have z1 := frozen_row hk0 1
        have z2 := frozen_row hk0 2
        have z3 := frozen_row hk0 3
        have z4 := frozen_row hk0 4
        have z5 := frozen_row hk0 5
        have z6 := frozen_row hk0 6
        have z7 := frozen_row hk0 7
        have z8 := frozen_row hk0 8
        have z9 := frozen_row hk0 9
        have HK0 := Lib.hid hk0
        have hbw := hb1.trans (hbW.mono hb1.size)
        clear hk0
        go_wp2
        exact bodyPost_ret (results_r (t1 := 2) (t3 := 3) (g := w.heap.size) (r := default) Tryd.results18 rfl rfl (rset9 (rset8 (rset7 (rset6 (rset5 (rset4 (rset3 (rset2 (rset1 (rset0 HK0.out))))))))))) rfl ⟨by rw [hz.out.1, hz.out.2]; rfl, ((((((((((hbw.setCell (Nat.le_refl _) _).setCell (Nat.le_refl _) _).setCell (Nat.le_refl _) _).setCell (Nat.le_refl _) _).setCell (Nat.le_refl _) _).setCell (Nat.le_refl _) _).setCell (Nat.le_refl _) _).setCell (Nat.le_refl _) _).setCell (Nat.le_refl _) _).setCell (Nat.le_refl _) _)⟩
theorem ftParse_any (s : ByteArray) (w : World) (hE : Env w) (hlim : s.size < 4294967281) :
    Calls Tryd.prog 18 #[.string s] w fun e w' => e = .returned (.tuple #[(frV s.data.toList).agg, .int .i64 (frE s.data.toList)]) ∧ Below w.heap.size w w' := by
  have hP := splitB_pieces 32 s
  have hN := countB_pieces 32 s
  have hl : (Lib.splitB ⟨#[32]⟩ 0 (Lib.countB s ⟨#[32]⟩) s).length = (pieces 32 s.data.toList).length := by rw [← hP, List.length_map]
  by_cases h6 : (pieces 32 s.data.toList).length = 6
  · obtain ⟨x0, x1, x2, x3, x4, x5, hL⟩ := six_list (L := Lib.splitB ⟨#[32]⟩ 0 (Lib.countB s ⟨#[32]⟩) s) (by rw [hl]; exact h6)
    rw [hL] at hP
    exact ftParse_six s x0 x1 x2 x3 x4 x5 w hE hlim hP.symm hL (by rw [hN, h6])
  · exact ftParse_not s _ w hE hlim hl.symm rfl (by rw [hN, hl]) (by rw [hl]; exact h6)
end Go.Proofs.YtmgeknghgngliaaDoor

/-
  Walks over the filter's layer: whole filters: the reference's Check, Decides.
-/
namespace Go.Proofs.YtmgeknghgngliaaDoor
open Go Go.RowKit Go.Sort

theorem rcell {L : List RuleV} {k i : Nat} {r : RuleV} {v : Value} (h : L[k]? = some r) (hv : r.enc[i]? = some v) : (rcells L)[k * 10 + i]? = some v := flat_get RuleV.enc 10 rule_len L k i r v h hv

end Go.Proofs.YtmgeknghgngliaaDoor
