/-
  Joined texts: Ct5, Ct6, Ct9, Ct7, Ct8, Ct10, Ct11, Dec, Ad1, Ad2, Addr3, Addr4.
-/
import Derived.Test.YtbahehmfhjkgeaaGreatMRelRefuses8
import Derived.Test.YtbahehmfhjkgeaaGreatMRelRefuses3
import Derived.Test.YtbahehmfhjkgeaaGreatMRelRefuses5
import Derived.Laws.Externs
import Derived.Lib.AtoiTie
import Derived.Lib.AtoiAllCases
import Derived.Lib.ItoaLen
import Derived.Lib.SplitLaws
import Derived.Lib.Join
import Derived.Test.YtbahehmfhjkgeaaGreatMRelRefuses1
import Derived.Test.YtbahehmfhjkgeaaGreatShelf
import Derived.Lib.AppendIntMem
import Derived.Lib.AtoiErrMem
import Derived.Lib.SmallJoins
import Derived.Deep.RegionHeld3
import Derived.StillTailTactics
/-
  bdd.times: the walk.
-/
namespace Go.Proofs.YtbahehmfhjkgeaaGreat
open Go Go.RowKit Go.ChangeMaps Go.MapKept Go.Maps Go.Lib Go.Sort

section
set_option maxRecDepth 100000
set_option maxHeartbeats 4000000
/-- A number as the program holds it. -/
def cntV (c : Nat) : Value := .agg #[.int .u64 ((c / 2 ^ 64 : Nat) : Int), .int .u64 ((c % 2 ^ 64 : Nat) : Int)]
theorem times_small (w : World) (a b n : Nat) (hb : b < 2 ^ 64) (hn : n < 64) (hc : (a * 2 ^ 64 + b) * 2 ^ n < 2 ^ 128) :
    Calls Tryz.prog 171 #[.agg #[.int .u64 a, .int .u64 b], .int .i64 n] w fun e w' => e = .returned (cntV ((a * 2 ^ 64 + b) * 2 ^ n)) ∧ Below w.heap.size w w' := by
  obtain ⟨p1, p2, p3, p4⟩ := times_plain hb hn hc
  have e5 : bits .or .u64 ((a * 2 ^ n : Nat) : Int) ((b / 2 ^ (64 - n) : Nat) : Int) = (((a * 2 ^ 64 + b) * 2 ^ n / 2 ^ 64 : Nat) : Int) := by rw [or64 _ _ p1 p2, p3]
  have e2 : IntKind.u64.wrap ((a : Int) * 2 ^ n) = ((a * 2 ^ n : Nat) : Int) := by
    have h := wrap_u64 (a * 2 ^ n)
    rw [Nat.mod_eq_of_lt p1] at h
    rw [← h]; push_cast; rfl
  have e3 : IntKind.u64.wrap ((b : Int) * 2 ^ n) = (((a * 2 ^ 64 + b) * 2 ^ n % 2 ^ 64 : Nat) : Int) := by
    have h := wrap_u64 (b * 2 ^ n)
    rw [p4] at h
    rw [← h]; push_cast; rfl
  have e1 : IntKind.i64.wrap (64 - (n : Int)) = ((64 - n : Nat) : Int) := by rw [wrap_i64c (by omega) (by omega)]; omega
  have e4 : (b : Int) / 2 ^ min (64 - n) 64 = ((b / 2 ^ (64 - n) : Nat) : Int) := by
    rw [Nat.min_eq_left (by omega)]
    push_cast
    rfl
  unfold cntV
  generalize hX : (a * 2 ^ 64 + b) * 2 ^ n / 2 ^ 64 = X at *
  generalize hY : (a * 2 ^ 64 + b) * 2 ^ n % 2 ^ 64 = Y at *
  generalize a * 2 ^ n = Z at *
  generalize hm : 64 - n = m at *
  generalize b / 2 ^ m = U at *
  have hI : ¬ (n : Int) ≥ 64 := by omega
  have hI2 : ¬ (n : Int) < 0 := by omega
  clear p1 p2 p3 p4 hX hY hm hc hb
  go_enter Tryz.func171, Tryz.ntmps171
  go_upto_region 3 with fail
  obtain ⟨k0, k1⟩ := blk2 w (.cells #[.int .u64 a, .int .u64 b] 85) (.cells #[.int .u64 0, .int .u64 0] 85)
  have hb2 := below2 w (.cells #[.int .u64 a, .int .u64 b] 85) (.cells #[.int .u64 0, .int .u64 0] 85)
  have HB := Lib.hid hb2
  clear hb2
  generalize (w.alloc (.cells #[.int .u64 a, .int .u64 b] 85)).alloc (.cells #[.int .u64 0, .int .u64 0] 85) = w1 at *
  obtain ⟨c0, c1, _, _⟩ := two_cells k0
  obtain ⟨d0, d1, _, _⟩ := two_cells k1
  have f0 := frozen_of_row _ _ 0 _ _ k1
  have f1 := frozen_of_row _ _ 1 _ _ k1
  have K1 := Lib.hid k1
  clear k0 k1
  obtain ⟨S, hS⟩ : ∃ S : World → Prop, S = fun W => W.cell? ⟨w.heap.size, 0, none⟩ = some (.int .u64 (a : Int)) ∧ W.cell? ⟨w.heap.size, 1, none⟩ = some (.int .u64 (b : Int)) := ⟨_, rfl⟩
  have hSa : ∀ W, S W → W.cell? ⟨w.heap.size, 0, none⟩ = some (.int .u64 (a : Int)) := fun W h => by rw [hS] at h; exact h.1
  have hSb : ∀ W, S W → W.cell? ⟨w.heap.size, 1, none⟩ = some (.int .u64 (b : Int)) := fun W h => by rw [hS] at h; exact h.2
  have hwd : Below w1.heap.size w1 { w1 with drawn := w1.drawn + 1 } := ⟨rfl, rfl, rfl, Nat.le_refl _, fun _ _ => rfl⟩
  have hSt : Hid (∀ (W : World) (x y : Value), W.cell? ⟨w.heap.size, 0, none⟩ = some (.int .u64 (a : Int)) → W.cell? ⟨w.heap.size, 1, none⟩ = some (.int .u64 (b : Int)) → S ((W.setCell ⟨w.heap.size + 1, 0, none⟩ x).setCell ⟨w.heap.size + 1, 1, none⟩ y)) := Lib.hid fun W x y h1 h2 => by
    rw [hS]
    have e := fun (V : World) (i j : Nat) (z : Value) => World.cell?_of_block (a := ⟨w.heap.size, j, none⟩) (Below.heap_setCell V ⟨w.heap.size + 1, i, none⟩ z w.heap.size (by show w.heap.size ≠ w.heap.size + 1; omega))
    exact ⟨by rw [e, e]; exact h1, by rw [e, e]; exact h2⟩
  have hS0 : S { w1 with drawn := w1.drawn + 1 } := by rw [hS]; exact ⟨c0, c1⟩
  clear hS
  haveI : Nonempty (InW S) := ⟨⟨_, hS0⟩⟩
  have C0 := Lib.hid c0
  have C1 := Lib.hid c1
  clear c0 c1 d0 d1 f0 f1
  refine wp_region_mixS S [(0, false), (1, false), (2, false), (3, false), (4, false), (5, false), (6, false), (7, false), (8, false), (9, false), (10, false), (11, false), (12, false), (13, false), (14, false), (15, true)] (by kernel_rfl) (by kernel_rfl) hS0 ?_
  have e6 : ∀ p : InW S, p.w.cell? ⟨w.heap.size, 0, none⟩ = some (.int .u64 (a : Int)) := fun p => hSa p.w p.h
  have e7 : ∀ p : InW S, p.w.cell? ⟨w.heap.size, 1, none⟩ = some (.int .u64 (b : Int)) := fun p => hSb p.w p.h
  have K1d := Lib.hid (blk_below hwd K1.out)
  have HBd := Lib.hid (HB.out.trans (hwd.mono HB.out.size))
  have C0d : Hid (({ w1 with drawn := w1.drawn + 1 } : World).cell? ⟨w.heap.size, 0, none⟩ = some (.int .u64 (a : Int))) := Lib.hid C0.out
  have C1d : Hid (({ w1 with drawn := w1.drawn + 1 } : World).cell? ⟨w.heap.size, 1, none⟩ = some (.int .u64 (b : Int))) := Lib.hid C1.out
  clear hSa hSb hwd K1 HB C0 C1 hS0
  generalize { w1 with drawn := w1.drawn + 1 } = w2 at *
  refine mix_take [0, 1, 2, 3, 4, 5, 6, 7, 8, 9, 10, 11, 12, 13, 14] [_, _, _, _, _, _, _, _, _, _, _, _, _, _, _] rfl rfl ?_
  simp only [List.getElem_toArray, List.getElem_cons_zero, List.getElem_cons_succ]
  repeat (go_big_quiet_step (fail))
  refine wpQuiet_nil ?_
  clear e1 e2 e3 e4 e5 e6 e7
  have K1o := K1d.out
  obtain ⟨d0, d1, _, _⟩ := two_cells K1o
  have f0 := frozen_of_row _ _ 0 _ _ K1o
  have f1 := frozen_of_row _ _ 1 _ _ K1o
  clear K1o
  refine mix_barS rfl (by rfl) ?_
  simp only [List.getElem_toArray, List.getElem_cons_zero, List.getElem_cons_succ]
  go_simp
  refine ⟨S, hSt.out _ _ _ C0d.out C1d.out, fun _ h => h, ?_⟩
  have K3 := Lib.hid (set_at (i := 1) (u := .int .u64 (Y : Int)) (set_at (i := 0) (u := .int .u64 (X : Int)) K1d.out))
  have HB3 := Lib.hid ((HBd.out.setCell (p := ⟨w.heap.size + 1, 0, none⟩) (by show w.heap.size ≤ w.heap.size + 1; omega) (.int .u64 (X : Int))).setCell (p := ⟨w.heap.size + 1, 1, none⟩) (by show w.heap.size ≤ w.heap.size + 1; omega) (.int .u64 (Y : Int)))
  clear d0 d1 f0 f1 hSt
  generalize (w2.setCell ⟨w.heap.size + 1, 0, none⟩ (.int .u64 (X : Int))).setCell ⟨w.heap.size + 1, 1, none⟩ (.int .u64 (Y : Int)) = w9 at *
  refine mix_end ?_
  go_wp2
  exact bodyPost_ret (results_cnt1 (t1 := 4) (g := w.heap.size + 1) Tryz.results171 rfl K3.out) rfl ⟨rfl, HB3.out⟩
theorem times_big (w : World) (b n k : Nat) (hk : n = k + 64) (hk2 : k < 64) (hc : b * 2 ^ n < 2 ^ 128) :
    Calls Tryz.prog 171 #[.agg #[.int .u64 0, .int .u64 b], .int .i64 n] w fun e w' => e = .returned (cntV (b * 2 ^ n)) ∧ Below w.heap.size w w' := by
  have hc2 : (b * 2 ^ 64 + 0) * 2 ^ k < 2 ^ 128 := by
    have e : (b * 2 ^ 64 + 0) * 2 ^ k = b * 2 ^ n := by rw [Nat.add_zero, hk, Nat.pow_add, Nat.mul_assoc, Nat.mul_comm (2 ^ 64)]
    rw [e]
    exact hc
  obtain ⟨p1, _, _, _⟩ := times_plain (by decide) hk2 hc2
  have hcv : cntV (b * 2 ^ n) = .agg #[.int .u64 ((b * 2 ^ k : Nat) : Int), .int .u64 0] := by
    have e : b * 2 ^ n = b * 2 ^ k * 2 ^ 64 := by rw [hk, Nat.pow_add, ← Nat.mul_assoc]
    unfold cntV
    rw [e, Nat.mul_div_cancel _ (by decide), Nat.mul_mod_left]
    rfl
  have e2 : IntKind.u64.wrap ((b : Int) * 2 ^ k) = ((b * 2 ^ k : Nat) : Int) := by
    have h := wrap_u64 (b * 2 ^ k)
    rw [Nat.mod_eq_of_lt p1] at h
    rw [← h]; push_cast; rfl
  have e3 : IntKind.u64.wrap 0 = 0 := by decide
  have e1 : IntKind.i64.wrap (64 - (k : Int)) = ((64 - k : Nat) : Int) := by rw [wrap_i64c (by omega) (by omega)]; omega
  have e8 : IntKind.i64.wrap ((n : Int) - 64) = (k : Int) := by rw [wrap_i64c (by omega) (by omega)]; omega
  have e5 : bits .or .u64 ((b * 2 ^ k : Nat) : Int) 0 = ((b * 2 ^ k : Nat) : Int) := by
    have h := or64 (b * 2 ^ k) 0 p1 (by decide)
    simpa using h
  rw [hcv]
  clear hcv hc hc2
  generalize b * 2 ^ k = X at *
  have hI : (n : Int) ≥ 64 := by omega
  have hI2 : ¬ (k : Int) < 0 := by omega
  clear p1 hk
  go_enter Tryz.func171, Tryz.ntmps171
  go_upto_region 2 with fail
  obtain ⟨k0, k1⟩ := blk2 w (.cells #[.int .u64 0, .int .u64 b] 85) (.cells #[.int .u64 0, .int .u64 0] 85)
  have hb2 := below2 w (.cells #[.int .u64 0, .int .u64 b] 85) (.cells #[.int .u64 0, .int .u64 0] 85)
  generalize (w.alloc (.cells #[.int .u64 0, .int .u64 b] 85)).alloc (.cells #[.int .u64 0, .int .u64 0] 85) = w0 at *
  obtain ⟨c0, c1, _, _⟩ := two_cells k0
  have f0 := frozen_of_row _ _ 0 _ _ k0
  have f1 := frozen_of_row _ _ 1 _ _ k0
  have K0 := Lib.hid k0
  have KR := Lib.hid k1
  have HB0 := Lib.hid hb2
  clear k0 k1 hb2
  go_upto_region 3 with fail
  have k0 := set_at (i := 1) (u := .int .u64 0) (set_at (i := 0) (u := .int .u64 (b : Int)) K0.out)
  have k1 := set_far (p := ⟨w.heap.size, 1, none⟩) (u := .int .u64 0) (set_far (p := ⟨w.heap.size, 0, none⟩) (u := .int .u64 (b : Int)) KR.out (by show w.heap.size + 1 ≠ w.heap.size; omega)) (by show w.heap.size + 1 ≠ w.heap.size; omega)
  have HB := Lib.hid ((HB0.out.setCell (p := ⟨w.heap.size, 0, none⟩) (Nat.le_refl _) (.int .u64 (b : Int))).setCell (p := ⟨w.heap.size, 1, none⟩) (Nat.le_refl _) (.int .u64 0))
  clear c0 c1 f0 f1 K0 KR HB0
  generalize (w0.setCell ⟨w.heap.size, 0, none⟩ (.int .u64 (b : Int))).setCell ⟨w.heap.size, 1, none⟩ (.int .u64 0) = w1 at *
  obtain ⟨c0, c1, _, _⟩ := two_cells k0
  obtain ⟨d0, d1, _, _⟩ := two_cells k1
  have f0 := frozen_of_row _ _ 0 _ _ k1
  have f1 := frozen_of_row _ _ 1 _ _ k1
  have K1 := Lib.hid k1
  clear k0 k1
  obtain ⟨S, hS⟩ : ∃ S : World → Prop, S = fun W => W.cell? ⟨w.heap.size, 0, none⟩ = some (.int .u64 (b : Int)) ∧ W.cell? ⟨w.heap.size, 1, none⟩ = some (.int .u64 0) := ⟨_, rfl⟩
  have hSa : ∀ W, S W → W.cell? ⟨w.heap.size, 0, none⟩ = some (.int .u64 (b : Int)) := fun W h => by rw [hS] at h; exact h.1
  have hSb : ∀ W, S W → W.cell? ⟨w.heap.size, 1, none⟩ = some (.int .u64 0) := fun W h => by rw [hS] at h; exact h.2
  have hwd : Below w1.heap.size w1 { w1 with drawn := w1.drawn + 1 } := ⟨rfl, rfl, rfl, Nat.le_refl _, fun _ _ => rfl⟩
  have hSt : Hid (∀ (W : World) (x y : Value), W.cell? ⟨w.heap.size, 0, none⟩ = some (.int .u64 (b : Int)) → W.cell? ⟨w.heap.size, 1, none⟩ = some (.int .u64 0) → S ((W.setCell ⟨w.heap.size + 1, 0, none⟩ x).setCell ⟨w.heap.size + 1, 1, none⟩ y)) := Lib.hid fun W x y h1 h2 => by
    rw [hS]
    have e := fun (V : World) (i j : Nat) (z : Value) => World.cell?_of_block (a := ⟨w.heap.size, j, none⟩) (Below.heap_setCell V ⟨w.heap.size + 1, i, none⟩ z w.heap.size (by show w.heap.size ≠ w.heap.size + 1; omega))
    exact ⟨by rw [e, e]; exact h1, by rw [e, e]; exact h2⟩
  have hS0 : S { w1 with drawn := w1.drawn + 1 } := by rw [hS]; exact ⟨c0, c1⟩
  clear hS
  haveI : Nonempty (InW S) := ⟨⟨_, hS0⟩⟩
  have C0 := Lib.hid c0
  have C1 := Lib.hid c1
  clear c0 c1 d0 d1 f0 f1
  refine wp_region_mixS S [(0, false), (1, false), (2, false), (3, false), (4, false), (5, false), (6, false), (7, false), (8, false), (9, false), (10, false), (11, false), (12, false), (13, false), (14, false), (15, true)] (by kernel_rfl) (by kernel_rfl) hS0 ?_
  have e6 : ∀ p : InW S, p.w.cell? ⟨w.heap.size, 0, none⟩ = some (.int .u64 (b : Int)) := fun p => hSa p.w p.h
  have e7 : ∀ p : InW S, p.w.cell? ⟨w.heap.size, 1, none⟩ = some (.int .u64 0) := fun p => hSb p.w p.h
  have K1d := Lib.hid (blk_below hwd K1.out)
  have HBd := Lib.hid (HB.out.trans (hwd.mono HB.out.size))
  have C0d : Hid (({ w1 with drawn := w1.drawn + 1 } : World).cell? ⟨w.heap.size, 0, none⟩ = some (.int .u64 (b : Int))) := Lib.hid C0.out
  have C1d : Hid (({ w1 with drawn := w1.drawn + 1 } : World).cell? ⟨w.heap.size, 1, none⟩ = some (.int .u64 0)) := Lib.hid C1.out
  clear hSa hSb hwd K1 HB C0 C1 hS0
  generalize { w1 with drawn := w1.drawn + 1 } = w2 at *
  refine mix_take [0, 1, 2, 3, 4, 5, 6, 7, 8, 9, 10, 11, 12, 13, 14] [_, _, _, _, _, _, _, _, _, _, _, _, _, _, _] rfl rfl ?_
  simp only [List.getElem_toArray, List.getElem_cons_zero, List.getElem_cons_succ]
  repeat (go_big_quiet_step (fail))
  refine wpQuiet_nil ?_
  clear e1 e2 e3 e5 e6 e7 e8
  have K1o := K1d.out
  obtain ⟨d0, d1, _, _⟩ := two_cells K1o
  have f0 := frozen_of_row _ _ 0 _ _ K1o
  have f1 := frozen_of_row _ _ 1 _ _ K1o
  clear K1o
  refine mix_barS rfl (by rfl) ?_
  simp only [List.getElem_toArray, List.getElem_cons_zero, List.getElem_cons_succ]
  go_simp
  refine ⟨S, hSt.out _ _ _ C0d.out C1d.out, fun _ h => h, ?_⟩
  have K3 := Lib.hid (set_at (i := 1) (u := .int .u64 0) (set_at (i := 0) (u := .int .u64 (X : Int)) K1d.out))
  have HB3 := Lib.hid ((HBd.out.setCell (p := ⟨w.heap.size + 1, 0, none⟩) (by show w.heap.size ≤ w.heap.size + 1; omega) (.int .u64 (X : Int))).setCell (p := ⟨w.heap.size + 1, 1, none⟩) (by show w.heap.size ≤ w.heap.size + 1; omega) (.int .u64 0))
  clear d0 d1 f0 f1 hSt
  generalize (w2.setCell ⟨w.heap.size + 1, 0, none⟩ (.int .u64 (X : Int))).setCell ⟨w.heap.size + 1, 1, none⟩ (.int .u64 0) = w9 at *
  refine mix_end ?_
  go_wp2
  exact bodyPost_ret (results_cnt1 (t1 := 4) (g := w.heap.size + 1) Tryz.results171 rfl K3.out) rfl ⟨rfl, HB3.out⟩
/-- A number of 128 bits times a power of two, while it fits. -/
theorem times_any (w : World) (c n : Nat) (hn : n < 128) (hc : c * 2 ^ n < 2 ^ 128) :
    Calls Tryz.prog 171 #[cntV c, .int .i64 n] w fun e w' => e = .returned (cntV (c * 2 ^ n)) ∧ Below w.heap.size w w' := by
  have hcd : c / 2 ^ 64 * 2 ^ 64 + c % 2 ^ 64 = c := Nat.div_add_mod' c (2 ^ 64)
  rcases Nat.lt_or_ge n 64 with h | h
  · have := times_small w (c / 2 ^ 64) (c % 2 ^ 64) n (Nat.mod_lt _ (Nat.two_pow_pos 64)) h (by rw [hcd]; exact hc)
    rw [hcd] at this
    exact this
  · obtain ⟨k, rfl⟩ : ∃ k, n = k + 64 := ⟨n - 64, by omega⟩
    have hlt : c < 2 ^ 64 := by
      have h1 : c * 2 ^ 64 ≤ c * 2 ^ (k + 64) := Nat.mul_le_mul_left _ (Nat.pow_le_pow_right (by decide) (by omega))
      have e : (2 : Nat) ^ 128 = 2 ^ 64 * 2 ^ 64 := by rw [← Nat.pow_add]
      rw [e] at hc
      exact Nat.lt_of_mul_lt_mul_right (Nat.lt_of_le_of_lt h1 hc)
    have := times_big w c (k + 64) k rfl (by omega) hc
    have e : cntV c = .agg #[.int .u64 0, .int .u64 (c : Int)] := by
      unfold cntV
      rw [Nat.div_eq_of_lt hlt, Nat.mod_eq_of_lt hlt]
      rfl
    rw [e]
    exact this
end
end Go.Proofs.YtbahehmfhjkgeaaGreat

/-
  For how many values of n variables a set is true (the variables are 0, 2, 4 ..), as the walk of bdd.Count takes it together.
-/
namespace Go.Proofs.YtbahehmfhjkgeaaGreat
open Go Go.RowKit Go.ChangeMaps Go.MapKept Go.Maps Go.Lib Go.Sort

variable {N : List Nd} {n : Nat}
/-- The place of a node's variable. -/
def plN (N : List Nd) (n i : Nat) : Nat := if i < 2 then n else (nd N i).v / 2
def cntF (N : List Nd) (n : Nat) : Nat → Nat → Nat
  | 0, _ => 0
  | k + 1, i => if i = 0 then 0 else if i = 1 then 1 else cntF N n k (nd N i).lo * 2 ^ (plN N n (nd N i).lo - plN N n i - 1) + cntF N n k (nd N i).hi * 2 ^ (plN N n (nd N i).hi - plN N n i - 1)
def cnt (N : List Nd) (n i : Nat) : Nat := cntF N n (i + 1) i
theorem cntF_more (wf : WF N) : ∀ (k i : Nat), i < N.length → i < k → cntF N n k i = cnt N n i
  | 0, _, _, h => absurd h (by omega)
  | k + 1, i, hi, hk => by
    unfold cnt
    rcases Nat.lt_or_ge i 2 with h | h
    · obtain rfl | rfl : i = 0 ∨ i = 1 := by omega
      · rfl
      · rfl
    · have hl := wf.lo i h hi
      have hh := wf.hi i h hi
      obtain ⟨m, rfl⟩ : ∃ m, i = m + 1 := ⟨i - 1, by omega⟩
      have e1 := cntF_more wf k (nd N (m + 1)).lo (by omega) (by omega)
      have e2 := cntF_more wf k (nd N (m + 1)).hi (by omega) (by omega)
      have e3 := cntF_more wf (m + 1) (nd N (m + 1)).lo (by omega) hl
      have e4 := cntF_more wf (m + 1) (nd N (m + 1)).hi (by omega) hh
      rw [cntF, cntF, if_neg (by omega), if_neg (by omega), if_neg (by omega), if_neg (by omega), e1, e2, e3, e4]
  termination_by k i => k + i
theorem cnt_zero : cnt N n 0 = 0 := rfl
theorem cnt_one : cnt N n 1 = 1 := rfl
theorem cnt_node (wf : WF N) {i : Nat} (h2 : 2 ≤ i) (hi : i < N.length) : cnt N n i = cnt N n (nd N i).lo * 2 ^ (plN N n (nd N i).lo - plN N n i - 1) + cnt N n (nd N i).hi * 2 ^ (plN N n (nd N i).hi - plN N n i - 1) := by
  have hl := wf.lo i h2 hi
  have hh := wf.hi i h2 hi
  conv => lhs; unfold cnt
  rw [cntF, if_neg (by omega), if_neg (by omega), cntF_more wf i _ (by omega) hl, cntF_more wf i _ (by omega) hh]
/-- The places rise. -/
theorem plN_lt {f : Nat} (wf : WF N) (hs : SupE N f n) {i : Nat} (hr : Rch N f i) (h2 : 2 ≤ i) (hi : i < N.length) :
    plN N n i < n ∧ (nd N i).v = 2 * plN N n i ∧ plN N n i < plN N n (nd N i).lo ∧ plN N n i < plN N n (nd N i).hi ∧ plN N n (nd N i).lo ≤ n ∧ plN N n (nd N i).hi ≤ n := by
  obtain ⟨j, hj, hv⟩ := hs i h2 hr
  have e : plN N n i = j := by unfold plN; rw [if_neg (by omega), hv]; omega
  have hvl := wf.vlo i h2 hi
  have hvh := wf.vhi i h2 hi
  have key : ∀ c, Rch N f c → (nd N i).v < (nd N c).v → j < plN N n c ∧ plN N n c ≤ n := fun c hc hvc => by
    rcases Nat.lt_or_ge c 2 with h | h
    · unfold plN; rw [if_pos h]; exact ⟨hj, Nat.le_refl _⟩
    · obtain ⟨k, hk, hvk⟩ := hs c h hc
      have : plN N n c = k := by unfold plN; rw [if_neg (by omega), hvk]; omega
      omega
  obtain ⟨a1, a2⟩ := key _ (hr.trans (.lo h2 hi (.refl _))) hvl
  obtain ⟨b1, b2⟩ := key _ (hr.trans (.hi h2 hi (.refl _))) hvh
  rw [e]
  exact ⟨hj, by rw [hv], a1, b1, a2, b2⟩
/-- There are no more than there are values. -/
theorem cnt_le {f : Nat} (wf : WF N) (hs : SupE N f n) : ∀ (k i : Nat), i < k → i < N.length → Rch N f i → cnt N n i ≤ 2 ^ (n - plN N n i)
  | 0, _, h, _, _ => absurd h (by omega)
  | k + 1, i, hk, hi, hr => by
    rcases Nat.lt_or_ge i 2 with h | h
    · obtain rfl | rfl : i = 0 ∨ i = 1 := by omega
      · exact Nat.zero_le _
      · rw [cnt_one]; exact Nat.two_pow_pos _
    · obtain ⟨p1, _, p3, p4, p5, p6⟩ := plN_lt wf hs hr h hi
      have hl := wf.lo i h hi
      have hh := wf.hi i h hi
      have i1 := cnt_le wf hs k _ (by omega) (by omega) (hr.trans (.lo h hi (.refl _)))
      have i2 := cnt_le wf hs k _ (by omega) (by omega) (hr.trans (.hi h hi (.refl _)))
      have half : ∀ c p, c ≤ 2 ^ (n - p) → plN N n i < p → p ≤ n → c * 2 ^ (p - plN N n i - 1) ≤ 2 ^ (n - plN N n i - 1) := fun c p h1 h2 h3 => by
        refine Nat.le_trans (Nat.mul_le_mul_right _ h1) ?_
        rw [← Nat.pow_add]
        exact Nat.pow_le_pow_right (by decide) (by omega)
      have j1 := half _ _ i1 p3 p5
      have j2 := half _ _ i2 p4 p6
      have e : 2 ^ (n - plN N n i) = 2 ^ (n - plN N n i - 1) + 2 ^ (n - plN N n i - 1) := by
        have : n - plN N n i = (n - plN N n i - 1) + 1 := by omega
        rw [this, Nat.pow_succ]
        simp; omega
      rw [cnt_node wf h hi, e]
      exact Nat.add_le_add j1 j2
end Go.Proofs.YtbahehmfhjkgeaaGreat

/-
  The count is the number of values: one after the other false and true.
-/
namespace Go.Proofs.YtbahehmfhjkgeaaGreat
open Go Go.RowKit Go.ChangeMaps Go.MapKept Go.Maps Go.Lib Go.Sort

/-- For how many values of the variables 2 i, 2 (i + 1) .. (m of them) something is true. -/
def numF (F : (Nat → Bool) → Bool) : Nat → Nat → (Nat → Bool) → Nat
  | 0, _, s => if F s then 1 else 0
  | m + 1, i, s => numF F m (i + 1) (put s (2 * i) false) + numF F m (i + 1) (put s (2 * i) true)
theorem numF_congr {F G : (Nat → Bool) → Bool} {j : Nat} {b : Bool} (h : ∀ t : Nat → Bool, t (2 * j) = b → F t = G t) : ∀ (m i : Nat) (s : Nat → Bool), j < i → s (2 * j) = b → numF F m i s = numF G m i s
  | 0, _, s, _, hs => by rw [numF, numF, h s hs]
  | m + 1, i, s, hj, hs => by
    have e : ∀ c, put s (2 * i) c (2 * j) = b := fun c => by rw [put_other (by omega)]; exact hs
    rw [numF, numF, numF_congr h m (i + 1) _ (by omega) (e false), numF_congr h m (i + 1) _ (by omega) (e true)]
theorem num_cnt {N : List Nd} {n f0 : Nat} (wf : WF N) (hs : SupE N f0 n) : ∀ (m i g : Nat) (s : Nat → Bool), i + m = n → g < N.length → Rch N f0 g → i ≤ plN N n g →
    numF (fun s => ev N s g) m i s = cnt N n g * 2 ^ (plN N n g - i)
  | 0, i, g, s, hi, hg, hr, hp => by
    have h2 : g < 2 := by
      rcases Nat.lt_or_ge g 2 with h | h
      · exact h
      · have := (plN_lt wf hs hr h hg).1
        omega
    have e : plN N n g = n := if_pos h2
    rw [numF, e, show n - i = 0 by omega]
    obtain rfl | rfl : g = 0 ∨ g = 1 := by omega
    · rfl
    · rfl
  | m + 1, i, g, s, hi, hg, hr, hp => by
    rw [numF]
    rcases Nat.eq_or_lt_of_le hp with h | h
    · have h2 : 2 ≤ g := by
        rcases Nat.lt_or_ge g 2 with h3 | h3
        · have e : plN N n g = n := if_pos h3
          omega
        · exact h3
      obtain ⟨p1, p2, p3, p4, _, _⟩ := plN_lt wf hs hr h2 hg
      have hv : (nd N g).v = 2 * i := by rw [p2, ← h]
      have hlo := wf.lo g h2 hg
      have hhi := wf.hi g h2 hg
      have e0 := numF_congr (F := fun s => ev N s g) (G := fun s => ev N s (nd N g).lo) (j := i) (b := false) (fun t ht => by
        show ev N t g = ev N t (nd N g).lo
        rw [ev_node wf t h2 hg, hv, ht]; rfl) m (i + 1) (put s (2 * i) false) (Nat.lt_succ_self _) (put_same _ _ _)
      have e1 := numF_congr (F := fun s => ev N s g) (G := fun s => ev N s (nd N g).hi) (j := i) (b := true) (fun t ht => by
        show ev N t g = ev N t (nd N g).hi
        rw [ev_node wf t h2 hg, hv, ht]; rfl) m (i + 1) (put s (2 * i) true) (Nat.lt_succ_self _) (put_same _ _ _)
      rw [e0, e1, num_cnt wf hs m (i + 1) _ _ (by omega) (by omega) (hr.trans (.lo h2 hg (.refl _))) (by omega), num_cnt wf hs m (i + 1) _ _ (by omega) (by omega) (hr.trans (.hi h2 hg (.refl _))) (by omega),
        cnt_node wf h2 hg, ← h, Nat.sub_self, Nat.pow_zero, Nat.mul_one, Nat.sub_sub, Nat.sub_sub]
    · rw [num_cnt wf hs m (i + 1) g _ (by omega) hg hr h, num_cnt wf hs m (i + 1) g _ (by omega) hg hr h, ← Nat.mul_add]
      congr 1
      have e : plN N n g - i = (plN N n g - (i + 1)) + 1 := by omega
      rw [e, Nat.pow_succ]
      omega
/-- Of a set itself: its count, times two for each variable ahead of its own. -/
theorem num_all {N : List Nd} {n f0 : Nat} (wf : WF N) (hs : SupE N f0 n) (hf : f0 < N.length) (s : Nat → Bool) : numF (fun s => ev N s f0) n 0 s = cnt N n f0 * 2 ^ plN N n f0 := by
  have := num_cnt wf hs n 0 f0 s (by omega) hf (.refl _) (Nat.zero_le _)
  simpa using this
end Go.Proofs.YtbahehmfhjkgeaaGreat

/-
  The place of a node's variable: what bdd.Count asks at each node.
-/
namespace Go.Proofs.YtbahehmfhjkgeaaGreat
open Go Go.RowKit Go.ChangeMaps Go.MapKept Go.Maps Go.Lib Go.Sort

theorem idx_vars {n j : Nat} (hj : j < n) : idxP (fun x => x == ((2 * j : Nat) : Int)) (varsL 0 n) = (j : Int) :=
  idxP_hit _ _ j ((2 * j : Nat) : Int) (by rw [varsL_get 0 n hj]; rfl) (by simp) fun i x hi hx => by
    rw [varsL_get 0 n (by omega)] at hx
    injection hx with hx
    subst hx
    simp
    omega
section
set_option maxRecDepth 100000
set_option maxHeartbeats 4000000
variable {B : Nat} {A : Blks} {V Mo : Nat} {N : List Nd} {H G : List Nat}
theorem place_any {w : World} (hA : ArAt w B A V Mo N H G) (bo ba : Nat) (PL : Option Addr) (c n f : Nat) (hf : f < N.length) (hn : n ≤ 1000) (hb : w.cell? ⟨bo, 0, none⟩ = some (.slice PL n c)) (ha : w.cell? ⟨ba, 0, none⟩ = some (.pointer (some ⟨A.a, 0, none⟩)))
    (h : Rd w w.heap.size 1 (.slice PL n c) n (icells (varsL 0 n))) (hv : 2 ≤ f → (nd N f).v = 2 * plN N n f ∧ plN N n f < n) :
    Calls Tryz.prog 168 #[.int .i32 f, .pointer (some ⟨bo, 0, none⟩), .pointer (some ⟨ba, 0, none⟩)] w fun e w' => e = .returned (.int .i64 (plN N n f)) ∧ Below w.heap.size w w' := by
  by_cases h2 : f < 2
  · have e : plN N n f = n := if_pos h2
    have hI : (f : Int) < 2 := by omega
    rw [e]
    clear hv h hA ha e
    go_enter Tryz.func168, Tryz.ntmps168
    go_wp2
    go_ret
    exact ⟨rfl, Below.refl _ _⟩
  · have hI : ¬ (f : Int) < 2 := by omega
    obtain ⟨hv1, hv2⟩ := hv (by omega)
    have hle : N.length ≤ 2147483647 := by obtain ⟨_, h⟩ := hA; exact h.le
    obtain ⟨nv, hN⟩ := hA
    obtain ⟨ng, cp, rfl, hat⟩ := hN.at_node
    obtain ⟨x0, _, _⟩ := hat f hf
    rw [hv1] at x0
    generalize plN N n f = j at *
    have c3 : w.cell? ⟨A.a, 2, none⟩ = some (.slice (some ⟨ng, 0, none⟩) N.length cp) := hN.cellAt rfl
    have hI2 : (f : Int) < (N.length : Int) := by omega
    have hfb : (f : Int) ≤ 2147483646 := by omega
    have hjb : 2 * (j : Int) ≤ 2147483647 := by omega
    have HIX : Hid (∀ W, Below w.heap.size w W → Calls Tryz.prog 169 #[.slice PL n c, .int .i64 (2 * (j : Int))] W fun e w' => e = .returned (.int .i64 (j : Int)) ∧ Below W.heap.size W w') := Lib.hid fun W hW => by
      have hll := varsL_len 0 n
      have h1 : Rd W W.heap.size 1 (.slice PL n c) (varsL 0 n).length (icells (varsL 0 n)) := by rw [hll]; exact (h.below hW).mono hW.size
      have := indexI_any (varsL 0 n) (.slice PL n c) ((2 * j : Nat) : Int) W h1 (by omega)
      rw [idx_vars hv2] at this
      have e2 : ((2 * j : Nat) : Int) = 2 * (j : Int) := by omega
      rw [e2] at this
      exact this.mono fun e w' hx => ⟨hx.1, by rw [hx.2]; exact Below.refl _ _⟩
    clear hN hat h hv hv1 hle h2
    go_enter Tryz.func168, Tryz.ntmps168
    go_upto_region 3 with fail
    have g0 := cell_regrown hb
    have g1 := cell_regrown ha
    have g2 := cell_regrown c3
    have g3 := cell_regrown x0
    clear hb ha c3 x0
    refine wp_region_quiet_below (by kernel_rfl) (by kernel_rfl) ?_
    repeat (first | go_big_quiet_step ((with_reducible exact Calls.regrown_of (HIX.out _ (below_regrown _ _ _)))) | quiet_step ((with_reducible exact Calls.regrown_of (HIX.out _ (below_regrown _ _ _)))))
    refine wpQuiet_nil ?_
    intro w9 hw9
    have hb9 : Below w.heap.size w w9 := by
      obtain ⟨p, rfl⟩ := hw9
      exact below_regrown _ _ _
    clear hw9 g0 g1 g2 g3
    go_wp2
    go_ret
    exact ⟨rfl, hb9⟩
end
end Go.Proofs.YtbahehmfhjkgeaaGreat

/-
  The walk of bdd.Count.
-/
namespace Go.Proofs.YtbahehmfhjkgeaaGreat
open Go Go.RowKit Go.ChangeMaps Go.MapKept Go.Maps Go.Lib Go.Sort

/-- What was counted stands in the map. -/
structure DoneC (N : List Nd) (n : Nat) (K : List (Value × Value)) : Prop where
  at_ : ∀ i : Nat, i < N.length → getM K (.int .i32 i) = none ∨ getM K (.int .i32 i) = some (cntV (cnt N n i))
  zero : getM K (.int .i32 0) = some (cntV (cnt N n 0))
  one : getM K (.int .i32 1) = some (cntV (cnt N n 1))
  nd : (K.map (·.1)).Nodup
theorem DoneC.put {N : List Nd} {n f : Nat} {K : List (Value × Value)} (h : DoneC N n K) (hf : 2 ≤ f) (hn : ((putM K (.int .i32 f) (cntV (cnt N n f))).map (·.1)).Nodup) : DoneC N n (putM K (.int .i32 f) (cntV (cnt N n f))) := by
  refine ⟨fun i hi => ?_, ?_, ?_, hn⟩
  · by_cases e : i = f
    · subst e; exact .inr (getM_put_same _ _ _ h.nd)
    · rw [getM_put_other _ _ _ (by intro h; injection h with _ h; omega)]; exact h.at_ i hi
  · rw [getM_put_other _ _ _ (by intro h; injection h with _ h; omega)]; exact h.zero
  · rw [getM_put_other _ _ _ (by intro h; injection h with _ h; omega)]; exact h.one
structure CSt (A : Blks) (B V Mo : Nat) (N : List Nd) (H G : List Nat) (n : Nat) (PL : Option Addr) (c lim bo ba bd bw bp bm : Nat) (K : List (Value × Value)) (W : World) : Prop where
  ar : ArAt W B A V Mo N H G
  fm : Foreign A W bm
  o : W.heap[bo]? = some (.cells #[.slice PL n c] 33 (0, 0))
  a : W.heap[ba]? = some (.cells #[.pointer (some ⟨A.a, 0, none⟩)] 108 (0, 0))
  d : W.heap[bd]? = some (.cells #[.map (some bm)] 267 (0, 0))
  k : W.heap[bw]? = some (.cells #[.func (.func 170) #[] #[.pointer (some ⟨bd, 0, none⟩), .pointer (some ⟨ba, 0, none⟩), .pointer (some ⟨bw, 0, none⟩), .pointer (some ⟨bp, 0, none⟩)]] 268 (0, 0))
  p : W.heap[bp]? = some (.cells #[.func (.func 168) #[] #[.pointer (some ⟨bo, 0, none⟩), .pointer (some ⟨ba, 0, none⟩)]] 266 (0, 0))
  m : MapAt Tryz.prog 21 W bm K
  ok : DoneC N n K
  ne : bo ≠ bm ∧ ba ≠ bm ∧ bd ≠ bm ∧ bw ≠ bm ∧ bp ≠ bm
  rd : Rd W lim 1 (.slice PL n c) n (icells (varsL 0 n))
  lm : lim ≤ bm ∧ bm < W.heap.size
section
variable {A : Blks} {B V Mo : Nat} {N : List Nd} {H G : List Nat} {n : Nat} {PL : Option Addr} {c lim bo ba bd bw bp bm : Nat} {K K' : List (Value × Value)} {W W' : World}
theorem CSt.grown (h : CSt A B V Mo N H G n PL c lim bo ba bd bw bp bm K W) (hg : W.grownBy W' (some bm)) (hm : MapAt Tryz.prog 21 W' bm K') (hok : DoneC N n K') : CSt A B V Mo N H G n PL c lim bo ba bd bw bp bm K' W' := by
  obtain ⟨nv, hA⟩ := h.ar
  have hfm := h.fm
  obtain ⟨a1, a2, _⟩ := hA.calm hg.size fun k hk hn => hg.block k hk (fun e => hn (by injection e with e; rw [e]; exact hfm))
  obtain ⟨n1, n2, n3, n4, n5⟩ := h.ne
  have key : ∀ {g : Nat} {o : Obj}, W.heap[g]? = some o → g ≠ bm → W'.heap[g]? = some o := fun hk hne => (hg.block _ (lt_of_block hk) fun e => hne (by injection e)).trans hk
  have hs := hg.size
  have hl := h.lm
  exact ⟨⟨nv, a1⟩, a2 _ hfm, key h.o n1, key h.a n2, key h.d n3, key h.k n4, key h.p n5, hm, hok, h.ne, h.rd.below ⟨hg.os, hg.tape, hg.output, hg.size, fun i hi => hg.block i (by omega) fun e => by injection e with e; omega⟩, hl.1, by omega⟩
theorem CSt.below (h : CSt A B V Mo N H G n PL c lim bo ba bd bw bp bm K W) (hb : Below W.heap.size W W') : CSt A B V Mo N H G n PL c lim bo ba bd bw bp bm K W' :=
  h.grown (only_of_below hb _) (h.m.same (hb.block _ h.lm.2)) h.ok
end
theorem Tryz.add64_0 (x y : Int) (hx : 0 ≤ x) (hy : 0 ≤ y) (w : World) : (callFunc 172 #[.int .u64 x, .int .u64 y, .int .u64 0]).run Tryz.prog w =
    .ok (.value (.tuple #[.int .u64 ((x + y) % 18446744073709551616), .int .u64 ((x + y) / 18446744073709551616)])) w := by
  rw [run_callFunc_extern Tryz.func172 (by kernel_rfl) (by kernel_rfl) (by kernel_rfl) (e := add64Entry) (by kernel_rfl), run_add64 x y 0 hx hy (by omega) (by omega)]
  simp [Result.andThen]
/-- The two branches of a node, and what was taken together ahead of each. -/
def childC (N : List Nd) (f k : Nat) : Nat := if k = 0 then (nd N f).lo else (nd N f).hi
def accC (N : List Nd) (n f : Nat) : Nat → Nat
  | 0 => 0
  | k + 1 => accC N n f k + cnt N n (childC N f k) * 2 ^ (plN N n (childC N f k) - plN N n f - 1)
theorem accC_two {N : List Nd} {n f : Nat} (wf : WF N) (h2 : 2 ≤ f) (hf : f < N.length) : accC N n f 2 = cnt N n f := by
  rw [cnt_node wf h2 hf]
  simp [accC, childC]
theorem child_ok {N : List Nd} {n f0 f : Nat} (hs : SupE N f0 n) (wf : WF N) (hr : Rch N f0 f) (h2 : 2 ≤ f) (hf : f < N.length) (hn : n ≤ 120) (k : Nat) (hk : k < 2) :
    childC N f k < f ∧ Rch N f0 (childC N f k) ∧ plN N n f < plN N n (childC N f k) ∧ plN N n (childC N f k) ≤ n ∧ cnt N n (childC N f k) * 2 ^ (plN N n (childC N f k) - plN N n f - 1) < 2 ^ 128 ∧ accC N n f (k + 1) < 2 ^ 128 ∧ (2 ≤ childC N f k → (nd N (childC N f k)).v = 2 * plN N n (childC N f k) ∧ plN N n (childC N f k) < n) := by
  obtain ⟨p1, p2, p3, p4, p5, p6⟩ := plN_lt wf hs hr h2 hf
  have hlo := wf.lo f h2 hf
  have hhi := wf.hi f h2 hf
  have hle := cnt_le wf hs (f + 1) f (Nat.lt_succ_self _) hf hr
  have hb : 2 ^ (n - plN N n f) < 2 ^ 128 := Nat.pow_lt_pow_right (by decide) (by omega)
  rw [← accC_two wf h2 hf] at hle
  have hm1 : accC N n f 1 ≤ accC N n f 2 := Nat.le_add_right _ _
  have ha2 : accC N n f 2 < 2 ^ 128 := Nat.lt_of_le_of_lt hle hb
  obtain rfl | rfl : k = 0 ∨ k = 1 := by omega
  · have hr0 : Rch N f0 (nd N f).lo := hr.trans (.lo h2 hf (.refl _))
    have e : accC N n f 1 = cnt N n (nd N f).lo * 2 ^ (plN N n (nd N f).lo - plN N n f - 1) := by simp [accC, childC]
    refine ⟨hlo, hr0, p3, p5, ?_, Nat.lt_of_le_of_lt hm1 ha2, fun hc => ?_⟩
    · show cnt N n (nd N f).lo * 2 ^ (plN N n (nd N f).lo - plN N n f - 1) < 2 ^ 128
      rw [← e]; omega
    · obtain ⟨q1, q2, _⟩ := plN_lt wf hs hr0 hc (show (nd N f).lo < N.length by omega)
      exact ⟨q2, q1⟩
  · have hr1 : Rch N f0 (nd N f).hi := hr.trans (.hi h2 hf (.refl _))
    have e : accC N n f 2 = accC N n f 1 + cnt N n (nd N f).hi * 2 ^ (plN N n (nd N f).hi - plN N n f - 1) := rfl
    refine ⟨hhi, hr1, p4, p6, ?_, ha2, fun hc => ?_⟩
    · show cnt N n (nd N f).hi * 2 ^ (plN N n (nd N f).hi - plN N n f - 1) < 2 ^ 128
      omega
    · obtain ⟨q1, q2, _⟩ := plN_lt wf hs hr1 hc (show (nd N f).hi < N.length by omega)
      exact ⟨q2, q1⟩
section
set_option maxRecDepth 100000
set_option maxHeartbeats 4000000
theorem cntWalk_any {A : Blks} {B V Mo : Nat} {N : List Nd} {H G : List Nat} {n : Nat} {PL : Option Addr} {c lim bo ba bd bw bp bm f0 : Nat} (hs : SupE N f0 n) (hn : n ≤ 120) :
    ∀ (q f : Nat) (K : List (Value × Value)) (W : World), f < q → f < N.length → Rch N f0 f → CSt A B V Mo N H G n PL c lim bo ba bd bw bp bm K W →
    Calls Tryz.prog 170 #[.int .i32 f, .pointer (some ⟨bd, 0, none⟩), .pointer (some ⟨ba, 0, none⟩), .pointer (some ⟨bw, 0, none⟩), .pointer (some ⟨bp, 0, none⟩)] W
      fun e W' => e = .returned (cntV (cnt N n f)) ∧ ∃ K', CSt A B V Mo N H G n PL c lim bo ba bd bw bp bm K' W' ∧ W.grownBy W' (some bm) := by
  intro q
  induction q with
  | zero => intro f K W hf; omega
  | succ q ih =>
    intro f K W hfq hf hr hg
    have hle : N.length ≤ 2147483647 := by obtain ⟨_, h⟩ := hg.ar; exact h.le
    have hwf : WF N := by obtain ⟨_, h⟩ := hg.ar; exact h.wf
    have hkf := key_i32 (a := (f : Int)) (by omega)
    have hb1 := below1 W (.cells #[.int .u64 0, .int .u64 0] 85)
    have hbk := blk1 W (.cells #[.int .u64 0, .int .u64 0] 85)
    have hl := (hg.m.same (hb1.block _ hg.lm.2)).look i32_keyed Tryz.underlying267 (zero_cnt (W.alloc (.cells #[.int .u64 0, .int .u64 0] 85))) true hkf
    have HC1 := Lib.hid (hg.below hb1)
    have HG := Lib.hid hg
    have HB := Lib.hid hb1
    have HK := Lib.hid hbk
    have c0 := cell0 HC1.out.d
    rcases hg.ok.at_ f hf with hno | hyes
    · have hf2 : 2 ≤ f := by
        rcases Nat.lt_or_ge f 2 with h | h
        · obtain rfl | rfl : f = 0 ∨ f = 1 := by omega
          · rw [show ((0 : Nat) : Int) = 0 from rfl, hg.ok.zero] at hno; cases hno
          · rw [show ((1 : Nat) : Int) = 1 from rfl, hg.ok.one] at hno; cases hno
        · exact h
      rw [hno] at hl
      have L1 : (Instr.lookup 267 (.map (some bm)) (.int .i32 f) true).run Tryz.prog (W.alloc (.cells #[.int .u64 0, .int .u64 0] 85)) = .ok (.tuple #[.agg #[.int .u64 0, .int .u64 0], .bool false]) (W.alloc (.cells #[.int .u64 0, .int .u64 0] 85)) := hl
      clear hl hb1 hbk hg hno
      have hfI : (f : Int) < (N.length : Int) := by omega
      have hfb : (f : Int) ≤ 2147483646 := by omega
      go_enter Tryz.func170, Tryz.ntmps170
      go_upto_region 1 with fail
      generalize W.alloc (.cells #[.int .u64 0, .int .u64 0] 85) = w1 at *
      go_upto_region 5 with fail
      have hb2 := below2 w1 (.cells #[.int .u64 0, .int .u64 0] 85) (.cells #[.int .u64 0, .int .u64 0] 85)
      obtain ⟨_, k2⟩ := blk2 w1 (.cells #[.int .u64 0, .int .u64 0] 85) (.cells #[.int .u64 0, .int .u64 0] 85)
      have HR2 := Lib.hid (blk_below hb2 HK.out)
      have HC2 := Lib.hid (HC1.out.below hb2)
      have HB2 := Lib.hid (HB.out.trans (hb2.mono HB.out.size))
      have HA2 := Lib.hid k2
      have hw1 := lt_of_block HK.out
      clear L1 c0 hb2 k2 HC1 HB HK
      generalize (w1.alloc (.cells #[.int .u64 0, .int .u64 0] 85)).alloc (.cells #[.int .u64 0, .int .u64 0] 85) = w2 at *
      obtain ⟨nv, hN⟩ := HC2.out.ar
      obtain ⟨ng, cp, rfl, hat⟩ := hN.at_node
      obtain ⟨_, x1, x2⟩ := hat f hf
      have c3 : w2.cell? ⟨A.a, 2, none⟩ = some (.slice (some ⟨ng, 0, none⟩) N.length cp) := hN.cellAt rfl
      have c1 := cell0 HC2.out.a
      haveI : Nonempty (InW (fun v => Below w2.heap.size w2 v)) := ⟨⟨_, Below.refl _ _⟩⟩
      have hb4 : Below w2.heap.size w2 { w2 with drawn := w2.drawn + 1 } := ⟨rfl, rfl, rfl, Nat.le_refl _, fun _ _ => rfl⟩
      refine wp_region_mixS (fun v => Below w2.heap.size w2 v) [(0, false), (1, false), (2, false), (3, false), (4, false), (5, false), (6, false), (7, false), (8, false), (9, false), (10, false), (11, false), (12, false), (13, false), (14, false), (15, false), (18, false), (16, true), (17, true)] (by kernel_rfl) (by kernel_rfl) hb4 ?_
      have C1 : ∀ p : InW (fun v => Below w2.heap.size w2 v), p.w.cell? ⟨ba, 0, none⟩ = some (.pointer (some ⟨A.a, 0, none⟩)) := fun p => (p.h.cell (p := ⟨ba, 0, none⟩) (World.block_lt_of_cell? _ _ c1)).trans c1
      have C3 : ∀ p : InW (fun v => Below w2.heap.size w2 v), p.w.cell? ⟨A.a, 2, none⟩ = some (.slice (some ⟨ng, 0, none⟩) N.length cp) := fun p => (p.h.cell (p := ⟨A.a, 2, none⟩) (World.block_lt_of_cell? _ _ c3)).trans c3
      have X1 : ∀ p : InW (fun v => Below w2.heap.size w2 v), p.w.cell? ⟨ng, f * 3 + 1, none⟩ = some (.int .i32 ((nd N f).lo : Int)) := fun p => (p.h.cell (p := ⟨ng, f * 3 + 1, none⟩) (World.block_lt_of_cell? _ _ x1)).trans x1
      have X2 : ∀ p : InW (fun v => Below w2.heap.size w2 v), p.w.cell? ⟨ng, f * 3 + 2, none⟩ = some (.int .i32 ((nd N f).hi : Int)) := fun p => (p.h.cell (p := ⟨ng, f * 3 + 2, none⟩) (World.block_lt_of_cell? _ _ x2)).trans x2
      clear hN hat c1 c3 x1 x2
      generalize { w2 with drawn := w2.drawn + 1 } = W4 at *
      refine mix_take [0, 1, 2, 3, 4, 5, 6, 7, 8, 9, 10, 11, 12, 13, 14, 15, 18] [_, _, _, _, _, _, _, _, _, _, _, _, _, _, _, _, _] rfl rfl ?_
      simp only [List.getElem_toArray, List.getElem_cons_zero, List.getElem_cons_succ]
      repeat (go_big_quiet_step (fail))
      refine wpQuiet_nil ?_
      clear C1 C3 X1 X2
      refine mix_barS rfl (by rfl) ?_
      simp only [List.getElem_toArray, List.getElem_cons_zero, List.getElem_cons_succ]
      go_simp
      refine ⟨fun v => Below w2.heap.size w2 v, hb4.trans ((below1 W4 _).mono hb4.size), fun _ h => h, ?_⟩
      refine mix_barS rfl (by rfl) ?_
      simp only [List.getElem_toArray, List.getElem_cons_zero, List.getElem_cons_succ]
      go_simp
      refine ⟨fun v => Below w2.heap.size w2 v, hb4.trans ((below1 W4 _).mono hb4.size), fun _ h => h, ?_⟩
      refine mix_end ?_
      have hb5 := hb4.trans ((below1 W4 (.cells #[.int .i32 ((nd N f).lo : Int), .int .i32 ((nd N f).hi : Int)] 21)).mono hb4.size)
      have HS5 := Lib.hid (blk1 W4 (.cells #[.int .i32 ((nd N f).lo : Int), .int .i32 ((nd N f).hi : Int)] 21))
      have HC5 := Lib.hid (HC2.out.below hb5)
      have HR5 := Lib.hid (blk_below hb5 HR2.out)
      have HA5 := Lib.hid (blk_below hb5 HA2.out)
      have HB5 := Lib.hid (HB2.out.trans (hb5.mono HB2.out.size))
      have hW4 := hb4.size
      have hw2 := lt_of_block HA2.out
      clear hb4 hb5 HC2 HR2 HA2 HB2
      generalize W4.alloc (.cells #[.int .i32 ((nd N f).lo : Int), .int .i32 ((nd N f).hi : Int)] 21) = W5 at *
      have HP := Lib.hid (fun k (hk : k < 2) => child_ok hs hwf hr hf2 hf hn k hk)
      have HAC := Lib.hid (accC_two (n := n) hwf hf2 hf)
      go_wp2
      go_loopw [41] (fun i wr => ∃ (k : Nat) (K1 : List (Value × Value)), i = .int .i64 k ∧ k ≤ 2 ∧ Hid (CSt A B V Mo N H G n PL c lim bo ba bd bw bp bm K1 wr ∧ wr.heap[W.heap.size]? = some (.cells #[.int .u64 0, .int .u64 0] 85 (0, 0)) ∧ wr.heap[w1.heap.size + 1]? = some (.cells #[.int .u64 ((accC N n f k / 2 ^ 64 : Nat) : Int), .int .u64 ((accC N n f k % 2 ^ 64 : Nat) : Int)] 85 (0, 0)) ∧ W.grownBy wr (some bm) ∧ wr.heap[W4.heap.size]? = some (.cells #[.int .i32 ((nd N f).lo : Int), .int .i32 ((nd N f).hi : Int)] 21 (0, 0)))) (fun i _ => 2 - (intOf i).toNat)
      case atStart => exact ⟨0, K, rfl, by omega, Lib.hid ⟨HC5.out, HR5.out, by simpa [accC] using HA5.out, only_of_below HB5.out _, HS5.out⟩⟩
      case round =>
        obtain ⟨k, K1, rfl, hk, HH⟩ := hrel
        by_cases hk2 : k < 2
        · have hI : (k : Int) < 2 := by omega
          obtain ⟨g1, g2, g3, g4, g5, g6, g7⟩ := HP.out k hk2
          have e0 : wr.cell? ⟨W4.heap.size, k, none⟩ = some (.int .i32 (childC N f k : Int)) := by
            rw [cell_of_row _ _ k _ _ (0, 0) HH.out.2.2.2.2]
            obtain rfl | rfl : k = 0 ∨ k = 1 := by omega
            · rfl
            · rfl
          have HG7 := Lib.hid (And.intro g1 (And.intro g2 (And.intro g3 (And.intro g4 (And.intro g5 (And.intro g6 g7))))))
          clear g1 g2 g3 g4 g5 g6 g7
          go_upto_region 8 with fail
          have hpl := HP.out k hk2
          obtain ⟨x, hx⟩ : ∃ x, childC N f k = x := ⟨_, rfl⟩
          have hac : accC N n f (k + 1) = accC N n f k + cnt N n x * 2 ^ (plN N n x - plN N n f - 1) := by rw [← hx]; rfl
          rw [hx] at hpl ⊢
          obtain ⟨g1, g2, g3, g4, g5, g6, g7⟩ := hpl
          have HCF := Lib.hid (plN_lt hwf hs hr hf2 hf)
          obtain ⟨St, hSt⟩ : ∃ St : World → Prop, St = fun X => (∃ K2, CSt A B V Mo N H G n PL c lim bo ba bd bw bp bm K2 X) ∧ wr.grownBy X (some bm) := ⟨_, rfl⟩
          have hbm := HG.out.lm.2
          have hstep : ∀ X Y, St X → X.grownBy Y (some bm) → (∃ K2, CSt A B V Mo N H G n PL c lim bo ba bd bw bp bm K2 Y) → St Y := fun X Y hX hg hc => by
            rw [hSt] at hX ⊢
            exact ⟨hc, hX.2.trans hg⟩
          have hbel : ∀ X Y, St X → Below X.heap.size X Y → St Y := fun X Y hX hb => hstep X Y hX (only_of_below hb _) (by
            rw [hSt] at hX
            obtain ⟨⟨K2, hc⟩, _⟩ := hX
            exact ⟨K2, hc.below hb⟩)
          have hset : ∀ X g i u, St X → wr.heap.size ≤ g → St (X.setCell ⟨g, i, none⟩ u) := fun X g i u hX hg => by
            rw [hSt] at hX ⊢
            obtain ⟨⟨K2, hc⟩, hgr⟩ := hX
            have hgr2 : wr.grownBy (X.setCell ⟨g, i, none⟩ u) (some bm) := only_setCell hgr (.inr hg) u
            have hb : bm < wr.heap.size := HH.out.1.lm.2
            exact ⟨⟨K2, HH.out.1.grown hgr2 (hc.m.same (Below.heap_setCell _ ⟨g, i, none⟩ u bm (by show bm ≠ g; omega))) hc.ok⟩, hgr2⟩
          have hsg : ∀ X, St X → wr.heap.size ≤ X.heap.size := fun X hX => by
            rw [hSt] at hX
            exact hX.2.size
          have hal : ∀ X o, St X → St (X.alloc o) := fun X o hX => hbel X _ hX (below1 X o)
          have hcell : ∀ X, St X → X.cell? ⟨bw, 0, none⟩ = some (.func (.func 170) #[] #[.pointer (some ⟨bd, 0, none⟩), .pointer (some ⟨ba, 0, none⟩), .pointer (some ⟨bw, 0, none⟩), .pointer (some ⟨bp, 0, none⟩)]) ∧ X.cell? ⟨bp, 0, none⟩ = some (.func (.func 168) #[] #[.pointer (some ⟨bo, 0, none⟩), .pointer (some ⟨ba, 0, none⟩)]) := fun X hX => by
            rw [hSt] at hX
            obtain ⟨⟨K2, hc⟩, _⟩ := hX
            exact ⟨cell0 hc.k, cell0 hc.p⟩
          have hsz : ∀ X, St X → bm < X.heap.size := fun X hX => by
            rw [hSt] at hX
            obtain ⟨⟨K2, hc⟩, _⟩ := hX
            exact hc.lm.2
          have HW : Hid (∀ X, St X → Calls Tryz.prog 170 #[.int .i32 x, .pointer (some ⟨bd, 0, none⟩), .pointer (some ⟨ba, 0, none⟩), .pointer (some ⟨bw, 0, none⟩), .pointer (some ⟨bp, 0, none⟩)] X fun e Y => e = .returned (cntV (cnt N n x)) ∧ St Y ∧ ∀ g o, X.heap[g]? = some o → g ≠ bm → Y.heap[g]? = some o) := Lib.hid fun X hX => by
            have hX2 := hX
            rw [hSt] at hX2
            obtain ⟨⟨K2, hc⟩, _⟩ := hX2
            refine (ih x K2 X (by omega) (by omega) g2 hc).mono ?_
            rintro e Y ⟨he, K3, hc3, hg3⟩
            exact ⟨he, hstep X Y hX hg3 ⟨K3, hc3⟩, fun g o hk hne => (hg3.block _ (lt_of_block hk) fun e => hne (by injection e)).trans hk⟩
          have HPL : Hid (∀ y : Nat, y < N.length → (2 ≤ y → (nd N y).v = 2 * plN N n y ∧ plN N n y < n) → ∀ X, St X → Calls Tryz.prog 168 #[.int .i32 y, .pointer (some ⟨bo, 0, none⟩), .pointer (some ⟨ba, 0, none⟩)] X fun e Y => e = .returned (.int .i64 (plN N n y)) ∧ St Y ∧ ∀ g o, X.heap[g]? = some o → Y.heap[g]? = some o) := Lib.hid fun y hy hyv X hX => by
            have hX2 := hX
            rw [hSt] at hX2
            obtain ⟨⟨K2, hc⟩, _⟩ := hX2
            refine (place_any hc.ar bo ba PL c n y hy (by omega) (cell0 hc.o) (cell0 hc.a) (hc.rd.mono (by have := hc.lm; omega)) hyv).mono ?_
            rintro e Y ⟨he, hb⟩
            exact ⟨he, hbel X Y hX hb, fun g o hk => blk_below hb hk⟩
          have HTI : Hid (∀ X, St X → Calls Tryz.prog 171 #[cntV (cnt N n x), .int .i64 ((plN N n x - plN N n f - 1 : Nat) : Int)] X fun e Y => e = .returned (cntV (cnt N n x * 2 ^ (plN N n x - plN N n f - 1))) ∧ St Y ∧ ∀ g o, X.heap[g]? = some o → Y.heap[g]? = some o) := Lib.hid fun X hX => by
            refine (times_any X (cnt N n x) (plN N n x - plN N n f - 1) (by omega) g5).mono ?_
            rintro e Y ⟨he, hb⟩
            exact ⟨he, hbel X Y hX hb, fun g o hk => blk_below hb hk⟩
          have st0 : St wr := by
            rw [hSt]
            exact ⟨⟨K1, HH.out.1⟩, World.grownBy.refl _ _⟩
          have st9 : ∀ o, St (wr.alloc o).drew := fun o => hbel wr _ st0 ⟨rfl, rfl, rfl, (below1 wr o).size, (below1 wr o).block⟩
          have st0 : St wr.drew := hbel wr _ st0 ⟨rfl, rfl, rfl, Nat.le_refl _, fun _ _ => rfl⟩
          have HBK : Hid (∀ o, ((wr.alloc o).drew).heap[wr.heap.size]? = some o) := Lib.hid fun o => blk1 wr o
          have HST9 := Lib.hid st9
          have HSET := Lib.hid (And.intro hset hsg)
          have HPX := Lib.hid (HPL.out x (by omega) g7)
          have HPF := Lib.hid (HPL.out f hf (fun _ => ⟨HCF.out.2.1, HCF.out.1⟩))
          have HST := Lib.hid hSt
          have HAL := Lib.hid (And.intro hal (And.intro hcell hsz))
          have HACC := Lib.hid (And.intro hac g6)
          obtain ⟨y, hy⟩ : ∃ y, cnt N n x * 2 ^ (plN N n x - plN N n f - 1) = y := ⟨_, rfl⟩
          rw [hy] at HTI HACC
          obtain ⟨m, hm⟩ : ∃ m, plN N n x - plN N n f - 1 = m := ⟨_, rfl⟩
          rw [hm] at HTI
          obtain ⟨px, hpx⟩ : ∃ px, plN N n x = px := ⟨_, rfl⟩
          obtain ⟨pf, hpf⟩ : ∃ pf, plN N n f = pf := ⟨_, rfl⟩
          have e1 : IntKind.i64.wrap ((px : Int) - (pf : Int)) = ((m + 1 : Nat) : Int) := by rw [wrap_i64c (by omega) (by omega)]; omega
          have e2 : IntKind.i64.wrap (m : Int) = (m : Int) := wrap_i64c (by omega) (by omega)
          rw [hpx] at HPX
          rw [hpf] at HPF
          unfold cntV at HTI
          rw [show cntV (cnt N n x) = .agg #[.int .u64 ((cnt N n x / 2 ^ 64 : Nat) : Int), .int .u64 ((cnt N n x % 2 ^ 64 : Nat) : Int)] from rfl] at HW
          generalize cnt N n x / 2 ^ 64 = cxh at *
          generalize cnt N n x % 2 ^ 64 = cxl at *
          obtain ⟨yh, hyh⟩ : ∃ yh, y / 2 ^ 64 = yh := ⟨_, rfl⟩
          obtain ⟨yl, hyl⟩ : ∃ yl, y % 2 ^ 64 = yl := ⟨_, rfl⟩
          rw [hyh, hyl] at HTI
          clear hbel hstep hset hsg st9 hSt hac g1 g2 g3 g4 g5 g6 g7 hy hm hpx hpf hal hcell hsz HPL
          go_region_held3 (fun v => v.cell? ⟨bw, 0, none⟩ = some (.func (.func 170) #[] #[.pointer (some ⟨bd, 0, none⟩), .pointer (some ⟨ba, 0, none⟩), .pointer (some ⟨bw, 0, none⟩), .pointer (some ⟨bp, 0, none⟩)]) ∧ v.cell? ⟨bp, 0, none⟩ = some (.func (.func 168) #[] #[.pointer (some ⟨bo, 0, none⟩), .pointer (some ⟨ba, 0, none⟩)])) (exact HAL.out.2.1 _ (by first | (with_reducible assumption) | (with_reducible exact HAL.out.1 _ _ (by with_reducible assumption)) | (with_reducible exact HST9.out _) | (exact HSET.out.1 _ _ _ _ (HSET.out.1 _ _ _ _ (by first | (with_reducible assumption) | (with_reducible exact HAL.out.1 _ _ (by with_reducible assumption))) (by first | exact Nat.le_refl _ | (have t1 := HSET.out.2 _ st1; omega) | (have t2 := HSET.out.2 _ st2; omega) | (have t3 := HSET.out.2 _ st3; omega) | (have t4 := HSET.out.2 _ st4; omega))) (by first | exact Nat.le_refl _ | (have t1 := HSET.out.2 _ st1; omega) | (have t2 := HSET.out.2 _ st2; omega) | (have t3 := HSET.out.2 _ st3; omega) | (have t4 := HSET.out.2 _ st4; omega))))) ((first
            | ((with_reducible refine (HW.out _ (by first | (with_reducible assumption) | (with_reducible exact HAL.out.1 _ _ (by with_reducible assumption)) | (with_reducible exact HST9.out _) | (exact HSET.out.1 _ _ _ _ (HSET.out.1 _ _ _ _ (by first | (with_reducible assumption) | (with_reducible exact HAL.out.1 _ _ (by with_reducible assumption))) (by first | exact Nat.le_refl _ | (have t1 := HSET.out.2 _ st1; omega) | (have t2 := HSET.out.2 _ st2; omega) | (have t3 := HSET.out.2 _ st3; omega) | (have t4 := HSET.out.2 _ st4; omega))) (by first | exact Nat.le_refl _ | (have t1 := HSET.out.2 _ st1; omega) | (have t2 := HSET.out.2 _ st2; omega) | (have t3 := HSET.out.2 _ st3; omega) | (have t4 := HSET.out.2 _ st4; omega))))).mono ?_); rintro e X1 ⟨rfl, st1, k1⟩; first | (have q1 := k1 wr.heap.size _ (HBK.out _) (by have t0 := HAL.out.2.2 _ st0; have t5 : wr.drew.heap.size = wr.heap.size := rfl; omega)) | skip)
            | ((with_reducible refine (HPX.out _ (by first | (with_reducible assumption) | (with_reducible exact HAL.out.1 _ _ (by with_reducible assumption)) | (with_reducible exact HST9.out _) | (exact HSET.out.1 _ _ _ _ (HSET.out.1 _ _ _ _ (by first | (with_reducible assumption) | (with_reducible exact HAL.out.1 _ _ (by with_reducible assumption))) (by first | exact Nat.le_refl _ | (have t1 := HSET.out.2 _ st1; omega) | (have t2 := HSET.out.2 _ st2; omega) | (have t3 := HSET.out.2 _ st3; omega) | (have t4 := HSET.out.2 _ st4; omega))) (by first | exact Nat.le_refl _ | (have t1 := HSET.out.2 _ st1; omega) | (have t2 := HSET.out.2 _ st2; omega) | (have t3 := HSET.out.2 _ st3; omega) | (have t4 := HSET.out.2 _ st4; omega))))).mono ?_); rintro e X2 ⟨rfl, st2, k2⟩; first | (have q2 := k2 _ _ q1) | (have q2 := k2 _ _ (blk1 _ _)) | skip)
            | ((with_reducible refine (HPF.out _ (by first | (with_reducible assumption) | (with_reducible exact HAL.out.1 _ _ (by with_reducible assumption)) | (with_reducible exact HST9.out _) | (exact HSET.out.1 _ _ _ _ (HSET.out.1 _ _ _ _ (by first | (with_reducible assumption) | (with_reducible exact HAL.out.1 _ _ (by with_reducible assumption))) (by first | exact Nat.le_refl _ | (have t1 := HSET.out.2 _ st1; omega) | (have t2 := HSET.out.2 _ st2; omega) | (have t3 := HSET.out.2 _ st3; omega) | (have t4 := HSET.out.2 _ st4; omega))) (by first | exact Nat.le_refl _ | (have t1 := HSET.out.2 _ st1; omega) | (have t2 := HSET.out.2 _ st2; omega) | (have t3 := HSET.out.2 _ st3; omega) | (have t4 := HSET.out.2 _ st4; omega))))).mono ?_); rintro e X3 ⟨rfl, st3, k3⟩; first | (have q3 := k3 _ _ q2) | (have q3 := k3 _ _ (blk1 _ _)) | skip)
            | ((with_reducible refine (HTI.out _ (by first | (with_reducible assumption) | (with_reducible exact HAL.out.1 _ _ (by with_reducible assumption)) | (with_reducible exact HST9.out _) | (exact HSET.out.1 _ _ _ _ (HSET.out.1 _ _ _ _ (by first | (with_reducible assumption) | (with_reducible exact HAL.out.1 _ _ (by with_reducible assumption))) (by first | exact Nat.le_refl _ | (have t1 := HSET.out.2 _ st1; omega) | (have t2 := HSET.out.2 _ st2; omega) | (have t3 := HSET.out.2 _ st3; omega) | (have t4 := HSET.out.2 _ st4; omega))) (by first | exact Nat.le_refl _ | (have t1 := HSET.out.2 _ st1; omega) | (have t2 := HSET.out.2 _ st2; omega) | (have t3 := HSET.out.2 _ st3; omega) | (have t4 := HSET.out.2 _ st4; omega))))).mono ?_); rintro e X4 ⟨rfl, st4, k4⟩; first | (have qq := k4 _ _ q3; have q4 := two_cells qq; have dd0 := q4.1; have dd1 := q4.2.1; have ff0 := q4.2.2.1; have ff1 := q4.2.2.2; clear q4) | (have qq := k4 _ _ (blk1 _ _); have q4 := two_cells qq; have dd0 := q4.1; have dd1 := q4.2.1; have ff0 := q4.2.2.1; have ff1 := q4.2.2.2; clear q4) | skip)))
          · have hz := Lib.hid (blk1 X4 (.cells #[.int .u64 (yh : Int), .int .u64 (yl : Int)] 85))
            have hst := HAL.out.1 _ (.cells #[.int .u64 (yh : Int), .int .u64 (yl : Int)] 85) st4
            have hX4 : w1.heap.size + 1 < X4.heap.size := by
              have h1 := HSET.out.2 _ st4
              have h2 := lt_of_block HH.out.2.2.1
              omega
            rw [HST.out] at hst
            obtain ⟨⟨K2, hc2⟩, hgr⟩ := hst
            have hk9 : ∀ {g : Nat} {o : Obj}, wr.heap[g]? = some o → g ≠ bm → (X4.alloc (.cells #[.int .u64 (yh : Int), .int .u64 (yl : Int)] 85)).heap[g]? = some o := fun hk hne => (hgr.block _ (lt_of_block hk) fun e => hne (by injection e)).trans hk
            have HR9 := Lib.hid (hk9 HH.out.2.1 (by omega))
            have HA9 := Lib.hid (hk9 HH.out.2.2.1 (by omega))
            have HL9 := Lib.hid (hk9 HH.out.2.2.2.2 (by omega))
            have HC9 := Lib.hid hc2
            have HG9 := Lib.hid (HH.out.2.2.2.1.trans hgr)
            have hYA : X4.heap.size ≠ w1.heap.size + 1 := fun e => by omega
            clear hk9 hgr hc2
            generalize X4.alloc (.cells #[.int .u64 (yh : Int), .int .u64 (yl : Int)] 85) = Xf at *
            have h1 := two_cells hz.out
            have c0 := h1.1
            have c1 := h1.2.1
            have h2 := two_cells HA9.out
            have d0 := h2.1
            have d1 := h2.2.1
            have f0 := h2.2.2.1
            have f1 := h2.2.2.2
            clear h1 h2
            obtain ⟨ah, hah⟩ : ∃ ah, accC N n f k / 2 ^ 64 = ah := ⟨_, rfl⟩
            obtain ⟨al, hal2⟩ : ∃ al, accC N n f k % 2 ^ 64 = al := ⟨_, rfl⟩
            rw [hah] at d0
            rw [hal2] at d1
            obtain ⟨th, hth⟩ : ∃ th, accC N n f (k + 1) / 2 ^ 64 = th := ⟨_, rfl⟩
            obtain ⟨tl, htl⟩ : ∃ tl, accC N n f (k + 1) % 2 ^ 64 = tl := ⟨_, rfl⟩
            obtain ⟨q1, q2⟩ := HACC.out
            have hth2 : th = ah + yh + (al + yl) / 18446744073709551616 ∧ tl = (al + yl) % 18446744073709551616 ∧ th < 18446744073709551616 := by
              have e : (2 : Nat) ^ 64 = 18446744073709551616 := by decide
              have e' : (2 : Nat) ^ 128 = 340282366920938463463374607431768211456 := by decide
              rw [e] at hah hal2 hyh hyl hth htl
              rw [e'] at q2
              omega
            have E1 : IntKind.u64.wrap ((ah : Int) + (yh : Int)) = (ah : Int) + (yh : Int) := by
              have h := wrap_u64 (ah + yh)
              rw [Nat.mod_eq_of_lt (by have e : (2 : Nat) ^ 64 = 18446744073709551616 := by decide
                                       rw [e]; omega)] at h
              push_cast at h
              exact h
            have E2 : IntKind.u64.wrap ((ah : Int) + (yh : Int) + ((al : Int) + (yl : Int)) / 18446744073709551616) = (th : Int) := by
              have h := wrap_u64 th
              rw [Nat.mod_eq_of_lt (by have e : (2 : Nat) ^ 64 = 18446744073709551616 := by decide
                                       rw [e]; omega)] at h
              rw [← h]
              congr 1
              omega
            have E3 : ((al : Int) + (yl : Int)) % 18446744073709551616 = (tl : Int) := by omega
            have HTT := Lib.hid (And.intro hth htl)
            clear hth htl hth2 q1 q2 hah hal2
            go_upto_region 11 with (simp only [Tryz.add64_0 (al : Int) (yl : Int) (by omega) (by omega)])
            have hgf : W.grownBy ((Xf.setCell ⟨w1.heap.size + 1, 0, none⟩ (.int .u64 (th : Int))).setCell ⟨w1.heap.size + 1, 1, none⟩ (.int .u64 (tl : Int))) (some bm) := only_setCell (only_setCell HG9.out (.inr (show W.heap.size ≤ w1.heap.size + 1 by omega)) _) (.inr (show W.heap.size ≤ w1.heap.size + 1 by omega)) _
            have hmf : MapAt Tryz.prog 21 ((Xf.setCell ⟨w1.heap.size + 1, 0, none⟩ (.int .u64 (th : Int))).setCell ⟨w1.heap.size + 1, 1, none⟩ (.int .u64 (tl : Int))) bm K2 := HC9.out.m.same ((Below.heap_setCell _ ⟨w1.heap.size + 1, 1, none⟩ _ bm (by show bm ≠ w1.heap.size + 1; omega)).trans (Below.heap_setCell _ ⟨w1.heap.size + 1, 0, none⟩ _ bm (by show bm ≠ w1.heap.size + 1; omega)))
            have HFA := Lib.hid (set_at (i := 1) (u := .int .u64 (tl : Int)) (set_at (i := 0) (u := .int .u64 (th : Int)) HA9.out))
            have HFR := Lib.hid (set_far (p := ⟨w1.heap.size + 1, 1, none⟩) (u := .int .u64 (tl : Int)) (set_far (p := ⟨w1.heap.size + 1, 0, none⟩) (u := .int .u64 (th : Int)) HR9.out (by show W.heap.size ≠ w1.heap.size + 1; omega)) (by show W.heap.size ≠ w1.heap.size + 1; omega))
            have HFL := Lib.hid (set_far (p := ⟨w1.heap.size + 1, 1, none⟩) (u := .int .u64 (tl : Int)) (set_far (p := ⟨w1.heap.size + 1, 0, none⟩) (u := .int .u64 (th : Int)) HL9.out (by show W4.heap.size ≠ w1.heap.size + 1; omega)) (by show W4.heap.size ≠ w1.heap.size + 1; omega))
            have HFC := Lib.hid (And.intro (HG.out.grown hgf hmf HC9.out.ok) hgf)
            clear c0 c1 d0 d1 f0 f1 E1 E2 E3 hgf hmf
            generalize (Xf.setCell ⟨w1.heap.size + 1, 0, none⟩ (.int .u64 (th : Int))).setCell ⟨w1.heap.size + 1, 1, none⟩ (.int .u64 (tl : Int)) = Xn at *
            go_wp2
            exact ⟨⟨k + 1, K2, by go_num, by omega, Lib.hid ⟨HFC.out.1, HFR.out, by rw [HTT.out.1, HTT.out.2]; exact HFA.out, HFC.out.2, HFL.out⟩⟩, by simp only [intOf]; omega⟩
          · have hz := Lib.hid (set_at (i := 1) (u := .int .u64 (yl : Int)) (set_at (i := 0) (u := .int .u64 (yh : Int)) qq))
            have hst := HSET.out.1 _ X3.heap.size 1 (.int .u64 (yl : Int)) (HSET.out.1 _ X3.heap.size 0 (.int .u64 (yh : Int)) st4 (HSET.out.2 _ st3)) (HSET.out.2 _ st3)
            rw [HST.out] at hst
            obtain ⟨⟨K2, hc2⟩, hgr⟩ := hst
            have hk9 : ∀ {g : Nat} {o : Obj}, wr.heap[g]? = some o → g ≠ bm → ((X4.setCell ⟨X3.heap.size, 0, none⟩ (.int .u64 (yh : Int))).setCell ⟨X3.heap.size, 1, none⟩ (.int .u64 (yl : Int))).heap[g]? = some o := fun hk hne => (hgr.block _ (lt_of_block hk) fun e => hne (by injection e)).trans hk
            have HR9 := Lib.hid (hk9 HH.out.2.1 (by omega))
            have HA9 := Lib.hid (hk9 HH.out.2.2.1 (by omega))
            have HL9 := Lib.hid (hk9 HH.out.2.2.2.2 (by omega))
            have HC9 := Lib.hid hc2
            have HG9 := Lib.hid (HH.out.2.2.2.1.trans hgr)
            have hYA : X3.heap.size ≠ w1.heap.size + 1 := fun e => by
              have h1 := HSET.out.2 _ st3
              have h2 := lt_of_block HH.out.2.2.1
              omega
            clear dd0 dd1 ff0 ff1 hk9 hgr hc2 qq
            generalize (X4.setCell ⟨X3.heap.size, 0, none⟩ (.int .u64 (yh : Int))).setCell ⟨X3.heap.size, 1, none⟩ (.int .u64 (yl : Int)) = Xf at *
            have h1 := two_cells hz.out
            have c0 := h1.1
            have c1 := h1.2.1
            have h2 := two_cells HA9.out
            have d0 := h2.1
            have d1 := h2.2.1
            have f0 := h2.2.2.1
            have f1 := h2.2.2.2
            clear h1 h2
            obtain ⟨ah, hah⟩ : ∃ ah, accC N n f k / 2 ^ 64 = ah := ⟨_, rfl⟩
            obtain ⟨al, hal2⟩ : ∃ al, accC N n f k % 2 ^ 64 = al := ⟨_, rfl⟩
            rw [hah] at d0
            rw [hal2] at d1
            obtain ⟨th, hth⟩ : ∃ th, accC N n f (k + 1) / 2 ^ 64 = th := ⟨_, rfl⟩
            obtain ⟨tl, htl⟩ : ∃ tl, accC N n f (k + 1) % 2 ^ 64 = tl := ⟨_, rfl⟩
            obtain ⟨q1, q2⟩ := HACC.out
            have hth2 : th = ah + yh + (al + yl) / 18446744073709551616 ∧ tl = (al + yl) % 18446744073709551616 ∧ th < 18446744073709551616 := by
              have e : (2 : Nat) ^ 64 = 18446744073709551616 := by decide
              have e' : (2 : Nat) ^ 128 = 340282366920938463463374607431768211456 := by decide
              rw [e] at hah hal2 hyh hyl hth htl
              rw [e'] at q2
              omega
            have E1 : IntKind.u64.wrap ((ah : Int) + (yh : Int)) = (ah : Int) + (yh : Int) := by
              have h := wrap_u64 (ah + yh)
              rw [Nat.mod_eq_of_lt (by have e : (2 : Nat) ^ 64 = 18446744073709551616 := by decide
                                       rw [e]; omega)] at h
              push_cast at h
              exact h
            have E2 : IntKind.u64.wrap ((ah : Int) + (yh : Int) + ((al : Int) + (yl : Int)) / 18446744073709551616) = (th : Int) := by
              have h := wrap_u64 th
              rw [Nat.mod_eq_of_lt (by have e : (2 : Nat) ^ 64 = 18446744073709551616 := by decide
                                       rw [e]; omega)] at h
              rw [← h]
              congr 1
              omega
            have E3 : ((al : Int) + (yl : Int)) % 18446744073709551616 = (tl : Int) := by omega
            have HTT := Lib.hid (And.intro hth htl)
            clear hth htl hth2 q1 q2 hah hal2
            go_upto_region 11 with (simp only [Tryz.add64_0 (al : Int) (yl : Int) (by omega) (by omega)])
            have hgf : W.grownBy ((Xf.setCell ⟨w1.heap.size + 1, 0, none⟩ (.int .u64 (th : Int))).setCell ⟨w1.heap.size + 1, 1, none⟩ (.int .u64 (tl : Int))) (some bm) := only_setCell (only_setCell HG9.out (.inr (show W.heap.size ≤ w1.heap.size + 1 by omega)) _) (.inr (show W.heap.size ≤ w1.heap.size + 1 by omega)) _
            have hmf : MapAt Tryz.prog 21 ((Xf.setCell ⟨w1.heap.size + 1, 0, none⟩ (.int .u64 (th : Int))).setCell ⟨w1.heap.size + 1, 1, none⟩ (.int .u64 (tl : Int))) bm K2 := HC9.out.m.same ((Below.heap_setCell _ ⟨w1.heap.size + 1, 1, none⟩ _ bm (by show bm ≠ w1.heap.size + 1; omega)).trans (Below.heap_setCell _ ⟨w1.heap.size + 1, 0, none⟩ _ bm (by show bm ≠ w1.heap.size + 1; omega)))
            have HFA := Lib.hid (set_at (i := 1) (u := .int .u64 (tl : Int)) (set_at (i := 0) (u := .int .u64 (th : Int)) HA9.out))
            have HFR := Lib.hid (set_far (p := ⟨w1.heap.size + 1, 1, none⟩) (u := .int .u64 (tl : Int)) (set_far (p := ⟨w1.heap.size + 1, 0, none⟩) (u := .int .u64 (th : Int)) HR9.out (by show W.heap.size ≠ w1.heap.size + 1; omega)) (by show W.heap.size ≠ w1.heap.size + 1; omega))
            have HFL := Lib.hid (set_far (p := ⟨w1.heap.size + 1, 1, none⟩) (u := .int .u64 (tl : Int)) (set_far (p := ⟨w1.heap.size + 1, 0, none⟩) (u := .int .u64 (th : Int)) HL9.out (by show W4.heap.size ≠ w1.heap.size + 1; omega)) (by show W4.heap.size ≠ w1.heap.size + 1; omega))
            have HFC := Lib.hid (And.intro (HG.out.grown hgf hmf HC9.out.ok) hgf)
            clear c0 c1 d0 d1 f0 f1 E1 E2 E3 hgf hmf
            generalize (Xf.setCell ⟨w1.heap.size + 1, 0, none⟩ (.int .u64 (th : Int))).setCell ⟨w1.heap.size + 1, 1, none⟩ (.int .u64 (tl : Int)) = Xn at *
            go_wp2
            exact ⟨⟨k + 1, K2, by go_num, by omega, Lib.hid ⟨HFC.out.1, HFR.out, by rw [HTT.out.1, HTT.out.2]; exact HFA.out, HFC.out.2, HFL.out⟩⟩, by simp only [intOf]; omega⟩
          · have hz := Lib.hid (set_at (i := 1) (u := .int .u64 (yl : Int)) (set_at (i := 0) (u := .int .u64 (yh : Int)) qq))
            have hst := HSET.out.1 _ X2.heap.size 1 (.int .u64 (yl : Int)) (HSET.out.1 _ X2.heap.size 0 (.int .u64 (yh : Int)) st4 (HSET.out.2 _ st2)) (HSET.out.2 _ st2)
            rw [HST.out] at hst
            obtain ⟨⟨K2, hc2⟩, hgr⟩ := hst
            have hk9 : ∀ {g : Nat} {o : Obj}, wr.heap[g]? = some o → g ≠ bm → ((X4.setCell ⟨X2.heap.size, 0, none⟩ (.int .u64 (yh : Int))).setCell ⟨X2.heap.size, 1, none⟩ (.int .u64 (yl : Int))).heap[g]? = some o := fun hk hne => (hgr.block _ (lt_of_block hk) fun e => hne (by injection e)).trans hk
            have HR9 := Lib.hid (hk9 HH.out.2.1 (by omega))
            have HA9 := Lib.hid (hk9 HH.out.2.2.1 (by omega))
            have HL9 := Lib.hid (hk9 HH.out.2.2.2.2 (by omega))
            have HC9 := Lib.hid hc2
            have HG9 := Lib.hid (HH.out.2.2.2.1.trans hgr)
            have hYA : X2.heap.size ≠ w1.heap.size + 1 := fun e => by
              have h1 := HSET.out.2 _ st2
              have h2 := lt_of_block HH.out.2.2.1
              omega
            clear dd0 dd1 ff0 ff1 hk9 hgr hc2 qq
            generalize (X4.setCell ⟨X2.heap.size, 0, none⟩ (.int .u64 (yh : Int))).setCell ⟨X2.heap.size, 1, none⟩ (.int .u64 (yl : Int)) = Xf at *
            have h1 := two_cells hz.out
            have c0 := h1.1
            have c1 := h1.2.1
            have h2 := two_cells HA9.out
            have d0 := h2.1
            have d1 := h2.2.1
            have f0 := h2.2.2.1
            have f1 := h2.2.2.2
            clear h1 h2
            obtain ⟨ah, hah⟩ : ∃ ah, accC N n f k / 2 ^ 64 = ah := ⟨_, rfl⟩
            obtain ⟨al, hal2⟩ : ∃ al, accC N n f k % 2 ^ 64 = al := ⟨_, rfl⟩
            rw [hah] at d0
            rw [hal2] at d1
            obtain ⟨th, hth⟩ : ∃ th, accC N n f (k + 1) / 2 ^ 64 = th := ⟨_, rfl⟩
            obtain ⟨tl, htl⟩ : ∃ tl, accC N n f (k + 1) % 2 ^ 64 = tl := ⟨_, rfl⟩
            obtain ⟨q1, q2⟩ := HACC.out
            have hth2 : th = ah + yh + (al + yl) / 18446744073709551616 ∧ tl = (al + yl) % 18446744073709551616 ∧ th < 18446744073709551616 := by
              have e : (2 : Nat) ^ 64 = 18446744073709551616 := by decide
              have e' : (2 : Nat) ^ 128 = 340282366920938463463374607431768211456 := by decide
              rw [e] at hah hal2 hyh hyl hth htl
              rw [e'] at q2
              omega
            have E1 : IntKind.u64.wrap ((ah : Int) + (yh : Int)) = (ah : Int) + (yh : Int) := by
              have h := wrap_u64 (ah + yh)
              rw [Nat.mod_eq_of_lt (by have e : (2 : Nat) ^ 64 = 18446744073709551616 := by decide
                                       rw [e]; omega)] at h
              push_cast at h
              exact h
            have E2 : IntKind.u64.wrap ((ah : Int) + (yh : Int) + ((al : Int) + (yl : Int)) / 18446744073709551616) = (th : Int) := by
              have h := wrap_u64 th
              rw [Nat.mod_eq_of_lt (by have e : (2 : Nat) ^ 64 = 18446744073709551616 := by decide
                                       rw [e]; omega)] at h
              rw [← h]
              congr 1
              omega
            have E3 : ((al : Int) + (yl : Int)) % 18446744073709551616 = (tl : Int) := by omega
            have HTT := Lib.hid (And.intro hth htl)
            clear hth htl hth2 q1 q2 hah hal2
            go_upto_region 11 with (simp only [Tryz.add64_0 (al : Int) (yl : Int) (by omega) (by omega)])
            have hgf : W.grownBy ((Xf.setCell ⟨w1.heap.size + 1, 0, none⟩ (.int .u64 (th : Int))).setCell ⟨w1.heap.size + 1, 1, none⟩ (.int .u64 (tl : Int))) (some bm) := only_setCell (only_setCell HG9.out (.inr (show W.heap.size ≤ w1.heap.size + 1 by omega)) _) (.inr (show W.heap.size ≤ w1.heap.size + 1 by omega)) _
            have hmf : MapAt Tryz.prog 21 ((Xf.setCell ⟨w1.heap.size + 1, 0, none⟩ (.int .u64 (th : Int))).setCell ⟨w1.heap.size + 1, 1, none⟩ (.int .u64 (tl : Int))) bm K2 := HC9.out.m.same ((Below.heap_setCell _ ⟨w1.heap.size + 1, 1, none⟩ _ bm (by show bm ≠ w1.heap.size + 1; omega)).trans (Below.heap_setCell _ ⟨w1.heap.size + 1, 0, none⟩ _ bm (by show bm ≠ w1.heap.size + 1; omega)))
            have HFA := Lib.hid (set_at (i := 1) (u := .int .u64 (tl : Int)) (set_at (i := 0) (u := .int .u64 (th : Int)) HA9.out))
            have HFR := Lib.hid (set_far (p := ⟨w1.heap.size + 1, 1, none⟩) (u := .int .u64 (tl : Int)) (set_far (p := ⟨w1.heap.size + 1, 0, none⟩) (u := .int .u64 (th : Int)) HR9.out (by show W.heap.size ≠ w1.heap.size + 1; omega)) (by show W.heap.size ≠ w1.heap.size + 1; omega))
            have HFL := Lib.hid (set_far (p := ⟨w1.heap.size + 1, 1, none⟩) (u := .int .u64 (tl : Int)) (set_far (p := ⟨w1.heap.size + 1, 0, none⟩) (u := .int .u64 (th : Int)) HL9.out (by show W4.heap.size ≠ w1.heap.size + 1; omega)) (by show W4.heap.size ≠ w1.heap.size + 1; omega))
            have HFC := Lib.hid (And.intro (HG.out.grown hgf hmf HC9.out.ok) hgf)
            clear c0 c1 d0 d1 f0 f1 E1 E2 E3 hgf hmf
            generalize (Xf.setCell ⟨w1.heap.size + 1, 0, none⟩ (.int .u64 (th : Int))).setCell ⟨w1.heap.size + 1, 1, none⟩ (.int .u64 (tl : Int)) = Xn at *
            go_wp2
            exact ⟨⟨k + 1, K2, by go_num, by omega, Lib.hid ⟨HFC.out.1, HFR.out, by rw [HTT.out.1, HTT.out.2]; exact HFA.out, HFC.out.2, HFL.out⟩⟩, by simp only [intOf]; omega⟩
          · have hz := Lib.hid (set_at (i := 1) (u := .int .u64 (yl : Int)) (set_at (i := 0) (u := .int .u64 (yh : Int)) qq))
            have hst := HSET.out.1 _ X1.heap.size 1 (.int .u64 (yl : Int)) (HSET.out.1 _ X1.heap.size 0 (.int .u64 (yh : Int)) st4 (HSET.out.2 _ st1)) (HSET.out.2 _ st1)
            rw [HST.out] at hst
            obtain ⟨⟨K2, hc2⟩, hgr⟩ := hst
            have hk9 : ∀ {g : Nat} {o : Obj}, wr.heap[g]? = some o → g ≠ bm → ((X4.setCell ⟨X1.heap.size, 0, none⟩ (.int .u64 (yh : Int))).setCell ⟨X1.heap.size, 1, none⟩ (.int .u64 (yl : Int))).heap[g]? = some o := fun hk hne => (hgr.block _ (lt_of_block hk) fun e => hne (by injection e)).trans hk
            have HR9 := Lib.hid (hk9 HH.out.2.1 (by omega))
            have HA9 := Lib.hid (hk9 HH.out.2.2.1 (by omega))
            have HL9 := Lib.hid (hk9 HH.out.2.2.2.2 (by omega))
            have HC9 := Lib.hid hc2
            have HG9 := Lib.hid (HH.out.2.2.2.1.trans hgr)
            have hYA : X1.heap.size ≠ w1.heap.size + 1 := fun e => by
              have h1 := HSET.out.2 _ st1
              have h2 := lt_of_block HH.out.2.2.1
              omega
            clear dd0 dd1 ff0 ff1 hk9 hgr hc2 qq
            generalize (X4.setCell ⟨X1.heap.size, 0, none⟩ (.int .u64 (yh : Int))).setCell ⟨X1.heap.size, 1, none⟩ (.int .u64 (yl : Int)) = Xf at *
            have h1 := two_cells hz.out
            have c0 := h1.1
            have c1 := h1.2.1
            have h2 := two_cells HA9.out
            have d0 := h2.1
            have d1 := h2.2.1
            have f0 := h2.2.2.1
            have f1 := h2.2.2.2
            clear h1 h2
            obtain ⟨ah, hah⟩ : ∃ ah, accC N n f k / 2 ^ 64 = ah := ⟨_, rfl⟩
            obtain ⟨al, hal2⟩ : ∃ al, accC N n f k % 2 ^ 64 = al := ⟨_, rfl⟩
            rw [hah] at d0
            rw [hal2] at d1
            obtain ⟨th, hth⟩ : ∃ th, accC N n f (k + 1) / 2 ^ 64 = th := ⟨_, rfl⟩
            obtain ⟨tl, htl⟩ : ∃ tl, accC N n f (k + 1) % 2 ^ 64 = tl := ⟨_, rfl⟩
            obtain ⟨q1, q2⟩ := HACC.out
            have hth2 : th = ah + yh + (al + yl) / 18446744073709551616 ∧ tl = (al + yl) % 18446744073709551616 ∧ th < 18446744073709551616 := by
              have e : (2 : Nat) ^ 64 = 18446744073709551616 := by decide
              have e' : (2 : Nat) ^ 128 = 340282366920938463463374607431768211456 := by decide
              rw [e] at hah hal2 hyh hyl hth htl
              rw [e'] at q2
              omega
            have E1 : IntKind.u64.wrap ((ah : Int) + (yh : Int)) = (ah : Int) + (yh : Int) := by
              have h := wrap_u64 (ah + yh)
              rw [Nat.mod_eq_of_lt (by have e : (2 : Nat) ^ 64 = 18446744073709551616 := by decide
                                       rw [e]; omega)] at h
              push_cast at h
              exact h
            have E2 : IntKind.u64.wrap ((ah : Int) + (yh : Int) + ((al : Int) + (yl : Int)) / 18446744073709551616) = (th : Int) := by
              have h := wrap_u64 th
              rw [Nat.mod_eq_of_lt (by have e : (2 : Nat) ^ 64 = 18446744073709551616 := by decide
                                       rw [e]; omega)] at h
              rw [← h]
              congr 1
              omega
            have E3 : ((al : Int) + (yl : Int)) % 18446744073709551616 = (tl : Int) := by omega
            have HTT := Lib.hid (And.intro hth htl)
            clear hth htl hth2 q1 q2 hah hal2
            go_upto_region 11 with (simp only [Tryz.add64_0 (al : Int) (yl : Int) (by omega) (by omega)])
            have hgf : W.grownBy ((Xf.setCell ⟨w1.heap.size + 1, 0, none⟩ (.int .u64 (th : Int))).setCell ⟨w1.heap.size + 1, 1, none⟩ (.int .u64 (tl : Int))) (some bm) := only_setCell (only_setCell HG9.out (.inr (show W.heap.size ≤ w1.heap.size + 1 by omega)) _) (.inr (show W.heap.size ≤ w1.heap.size + 1 by omega)) _
            have hmf : MapAt Tryz.prog 21 ((Xf.setCell ⟨w1.heap.size + 1, 0, none⟩ (.int .u64 (th : Int))).setCell ⟨w1.heap.size + 1, 1, none⟩ (.int .u64 (tl : Int))) bm K2 := HC9.out.m.same ((Below.heap_setCell _ ⟨w1.heap.size + 1, 1, none⟩ _ bm (by show bm ≠ w1.heap.size + 1; omega)).trans (Below.heap_setCell _ ⟨w1.heap.size + 1, 0, none⟩ _ bm (by show bm ≠ w1.heap.size + 1; omega)))
            have HFA := Lib.hid (set_at (i := 1) (u := .int .u64 (tl : Int)) (set_at (i := 0) (u := .int .u64 (th : Int)) HA9.out))
            have HFR := Lib.hid (set_far (p := ⟨w1.heap.size + 1, 1, none⟩) (u := .int .u64 (tl : Int)) (set_far (p := ⟨w1.heap.size + 1, 0, none⟩) (u := .int .u64 (th : Int)) HR9.out (by show W.heap.size ≠ w1.heap.size + 1; omega)) (by show W.heap.size ≠ w1.heap.size + 1; omega))
            have HFL := Lib.hid (set_far (p := ⟨w1.heap.size + 1, 1, none⟩) (u := .int .u64 (tl : Int)) (set_far (p := ⟨w1.heap.size + 1, 0, none⟩) (u := .int .u64 (th : Int)) HL9.out (by show W4.heap.size ≠ w1.heap.size + 1; omega)) (by show W4.heap.size ≠ w1.heap.size + 1; omega))
            have HFC := Lib.hid (And.intro (HG.out.grown hgf hmf HC9.out.ok) hgf)
            clear c0 c1 d0 d1 f0 f1 E1 E2 E3 hgf hmf
            generalize (Xf.setCell ⟨w1.heap.size + 1, 0, none⟩ (.int .u64 (th : Int))).setCell ⟨w1.heap.size + 1, 1, none⟩ (.int .u64 (tl : Int)) = Xn at *
            go_wp2
            exact ⟨⟨k + 1, K2, by go_num, by omega, Lib.hid ⟨HFC.out.1, HFR.out, by rw [HTT.out.1, HTT.out.2]; exact HFA.out, HFC.out.2, HFL.out⟩⟩, by simp only [intOf]; omega⟩
          · have hz := Lib.hid (set_at (i := 1) (u := .int .u64 (yl : Int)) (set_at (i := 0) (u := .int .u64 (yh : Int)) qq))
            have hst := HSET.out.1 _ wr.heap.size 1 (.int .u64 (yl : Int)) (HSET.out.1 _ wr.heap.size 0 (.int .u64 (yh : Int)) st4 (Nat.le_refl _)) (Nat.le_refl _)
            rw [HST.out] at hst
            obtain ⟨⟨K2, hc2⟩, hgr⟩ := hst
            have hk9 : ∀ {g : Nat} {o : Obj}, wr.heap[g]? = some o → g ≠ bm → ((X4.setCell ⟨wr.heap.size, 0, none⟩ (.int .u64 (yh : Int))).setCell ⟨wr.heap.size, 1, none⟩ (.int .u64 (yl : Int))).heap[g]? = some o := fun hk hne => (hgr.block _ (lt_of_block hk) fun e => hne (by injection e)).trans hk
            have HR9 := Lib.hid (hk9 HH.out.2.1 (by omega))
            have HA9 := Lib.hid (hk9 HH.out.2.2.1 (by omega))
            have HL9 := Lib.hid (hk9 HH.out.2.2.2.2 (by omega))
            have HC9 := Lib.hid hc2
            have HG9 := Lib.hid (HH.out.2.2.2.1.trans hgr)
            have hYA : wr.heap.size ≠ w1.heap.size + 1 := fun e => by
              have h1 := Nat.le_refl wr.heap.size
              have h2 := lt_of_block HH.out.2.2.1
              omega
            clear dd0 dd1 ff0 ff1 hk9 hgr hc2 qq
            generalize (X4.setCell ⟨wr.heap.size, 0, none⟩ (.int .u64 (yh : Int))).setCell ⟨wr.heap.size, 1, none⟩ (.int .u64 (yl : Int)) = Xf at *
            have h1 := two_cells hz.out
            have c0 := h1.1
            have c1 := h1.2.1
            have h2 := two_cells HA9.out
            have d0 := h2.1
            have d1 := h2.2.1
            have f0 := h2.2.2.1
            have f1 := h2.2.2.2
            clear h1 h2
            obtain ⟨ah, hah⟩ : ∃ ah, accC N n f k / 2 ^ 64 = ah := ⟨_, rfl⟩
            obtain ⟨al, hal2⟩ : ∃ al, accC N n f k % 2 ^ 64 = al := ⟨_, rfl⟩
            rw [hah] at d0
            rw [hal2] at d1
            obtain ⟨th, hth⟩ : ∃ th, accC N n f (k + 1) / 2 ^ 64 = th := ⟨_, rfl⟩
            obtain ⟨tl, htl⟩ : ∃ tl, accC N n f (k + 1) % 2 ^ 64 = tl := ⟨_, rfl⟩
            obtain ⟨q1, q2⟩ := HACC.out
            have hth2 : th = ah + yh + (al + yl) / 18446744073709551616 ∧ tl = (al + yl) % 18446744073709551616 ∧ th < 18446744073709551616 := by
              have e : (2 : Nat) ^ 64 = 18446744073709551616 := by decide
              have e' : (2 : Nat) ^ 128 = 340282366920938463463374607431768211456 := by decide
              rw [e] at hah hal2 hyh hyl hth htl
              rw [e'] at q2
              omega
            have E1 : IntKind.u64.wrap ((ah : Int) + (yh : Int)) = (ah : Int) + (yh : Int) := by
              have h := wrap_u64 (ah + yh)
              rw [Nat.mod_eq_of_lt (by have e : (2 : Nat) ^ 64 = 18446744073709551616 := by decide
                                       rw [e]; omega)] at h
              push_cast at h
              exact h
            have E2 : IntKind.u64.wrap ((ah : Int) + (yh : Int) + ((al : Int) + (yl : Int)) / 18446744073709551616) = (th : Int) := by
              have h := wrap_u64 th
              rw [Nat.mod_eq_of_lt (by have e : (2 : Nat) ^ 64 = 18446744073709551616 := by decide
                                       rw [e]; omega)] at h
              rw [← h]
              congr 1
              omega
            have E3 : ((al : Int) + (yl : Int)) % 18446744073709551616 = (tl : Int) := by omega
            have HTT := Lib.hid (And.intro hth htl)
            clear hth htl hth2 q1 q2 hah hal2
            go_upto_region 11 with (simp only [Tryz.add64_0 (al : Int) (yl : Int) (by omega) (by omega)])
            have hgf : W.grownBy ((Xf.setCell ⟨w1.heap.size + 1, 0, none⟩ (.int .u64 (th : Int))).setCell ⟨w1.heap.size + 1, 1, none⟩ (.int .u64 (tl : Int))) (some bm) := only_setCell (only_setCell HG9.out (.inr (show W.heap.size ≤ w1.heap.size + 1 by omega)) _) (.inr (show W.heap.size ≤ w1.heap.size + 1 by omega)) _
            have hmf : MapAt Tryz.prog 21 ((Xf.setCell ⟨w1.heap.size + 1, 0, none⟩ (.int .u64 (th : Int))).setCell ⟨w1.heap.size + 1, 1, none⟩ (.int .u64 (tl : Int))) bm K2 := HC9.out.m.same ((Below.heap_setCell _ ⟨w1.heap.size + 1, 1, none⟩ _ bm (by show bm ≠ w1.heap.size + 1; omega)).trans (Below.heap_setCell _ ⟨w1.heap.size + 1, 0, none⟩ _ bm (by show bm ≠ w1.heap.size + 1; omega)))
            have HFA := Lib.hid (set_at (i := 1) (u := .int .u64 (tl : Int)) (set_at (i := 0) (u := .int .u64 (th : Int)) HA9.out))
            have HFR := Lib.hid (set_far (p := ⟨w1.heap.size + 1, 1, none⟩) (u := .int .u64 (tl : Int)) (set_far (p := ⟨w1.heap.size + 1, 0, none⟩) (u := .int .u64 (th : Int)) HR9.out (by show W.heap.size ≠ w1.heap.size + 1; omega)) (by show W.heap.size ≠ w1.heap.size + 1; omega))
            have HFL := Lib.hid (set_far (p := ⟨w1.heap.size + 1, 1, none⟩) (u := .int .u64 (tl : Int)) (set_far (p := ⟨w1.heap.size + 1, 0, none⟩) (u := .int .u64 (th : Int)) HL9.out (by show W4.heap.size ≠ w1.heap.size + 1; omega)) (by show W4.heap.size ≠ w1.heap.size + 1; omega))
            have HFC := Lib.hid (And.intro (HG.out.grown hgf hmf HC9.out.ok) hgf)
            clear c0 c1 d0 d1 f0 f1 E1 E2 E3 hgf hmf
            generalize (Xf.setCell ⟨w1.heap.size + 1, 0, none⟩ (.int .u64 (th : Int))).setCell ⟨w1.heap.size + 1, 1, none⟩ (.int .u64 (tl : Int)) = Xn at *
            go_wp2
            exact ⟨⟨k + 1, K2, by go_num, by omega, Lib.hid ⟨HFC.out.1, HFR.out, by rw [HTT.out.1, HTT.out.2]; exact HFA.out, HFC.out.2, HFL.out⟩⟩, by simp only [intOf]; omega⟩
        · have hI : ¬ (k : Int) < 2 := by omega
          obtain rfl : k = 2 := by omega
          have HH2 := Lib.hid HH.out.2.2.1
          rw [HAC.out] at HH2
          obtain ⟨d0, d1, _, _⟩ := two_cells HH2.out
          have c0 := cell0 HH.out.1.d
          have hkf2 := key_i32 (a := (f : Int)) (by omega)
          go_upto_region 13 with (refine wpList_mapAt rfl _ _ _ 267 85 rfl i32_keyed Tryz.underlying267 rfl (show MapAt _ _ wr _ _ from HH.out.1.m) (.int .i32 f) (cntV (cnt N n f)) _ rfl rfl hkf2 ?_; intro w5 hm5 hg5; have HM5 := Lib.hid hm5; have HGR5 := Lib.hid hg5; clear hm5 hg5)
          try dsimp only [Act.put]
          have hblk : ∀ {g : Nat} {o : Obj}, wr.heap[g]? = some o → g ≠ bm → w5.heap[g]? = some o := fun hk hne => (HGR5.out.block _ (lt_of_block hk) fun e => hne (by injection e)).trans hk
          have hbm := HG.out.lm.2
          have K5 := Lib.hid (hblk HH.out.2.1 (by omega))
          have KA := Lib.hid (hblk HH2.out (by omega))
          have HC9 := Lib.hid (And.intro HM5.out (HH.out.1.ok.put hf2 (by obtain ⟨_, _, _, _, _, h⟩ := HM5.out; exact h)))
          have HGW := Lib.hid (HH.out.2.2.2.1.trans HGR5.out)
          clear c0 d0 d1 hblk HM5 HGR5 HH HH2
          obtain ⟨ct, hct⟩ : ∃ ct, cnt N n f = ct := ⟨_, rfl⟩
          rw [hct] at HC9 KA
          obtain ⟨KF, hKF⟩ : ∃ KF, putM K1 (.int .i32 f) (cntV ct) = KF := ⟨_, rfl⟩
          rw [hKF] at HC9
          obtain ⟨hi, hhi⟩ : ∃ hi, ct / 2 ^ 64 = hi := ⟨_, rfl⟩
          obtain ⟨lo, hlo2⟩ : ∃ lo, ct % 2 ^ 64 = lo := ⟨_, rfl⟩
          have HEQ : Hid (cntV (cnt N n f) = .agg #[.int .u64 (hi : Int), .int .u64 (lo : Int)]) := Lib.hid (by rw [hct, ← hhi, ← hlo2]; rfl)
          rw [hhi, hlo2] at KA
          clear hct hKF hhi hlo2
          obtain ⟨c0, c1, _, _⟩ := two_cells KA.out
          obtain ⟨d0, d1, e0, e1⟩ := two_cells K5.out
          have z1 : (w5.setCell ⟨W.heap.size, 0, none⟩ (.int .u64 (hi : Int))).heap[W.heap.size]? = some (.cells #[.int .u64 (hi : Int), .int .u64 0] 85 (0, 0)) := heap_setCell_same _ _ _ _ _ _ K5.out
          have z2 : ((w5.setCell ⟨W.heap.size, 0, none⟩ (.int .u64 (hi : Int))).setCell ⟨W.heap.size, 1, none⟩ (.int .u64 (lo : Int))).heap[W.heap.size]? = some (.cells #[.int .u64 (hi : Int), .int .u64 (lo : Int)] 85 (0, 0)) := heap_setCell_same _ _ _ _ _ _ z1
          have hgf : W.grownBy ((w5.setCell ⟨W.heap.size, 0, none⟩ (.int .u64 (hi : Int))).setCell ⟨W.heap.size, 1, none⟩ (.int .u64 (lo : Int))) (some bm) := only_setCell (only_setCell HGW.out (.inr (Nat.le_refl _)) _) (.inr (Nat.le_refl _)) _
          have hmf : MapAt Tryz.prog 21 ((w5.setCell ⟨W.heap.size, 0, none⟩ (.int .u64 (hi : Int))).setCell ⟨W.heap.size, 1, none⟩ (.int .u64 (lo : Int))) bm KF := HC9.out.1.same ((Below.heap_setCell _ ⟨W.heap.size, 1, none⟩ _ bm (by show bm ≠ W.heap.size; omega)).trans (Below.heap_setCell _ ⟨W.heap.size, 0, none⟩ _ bm (by show bm ≠ W.heap.size; omega)))
          have Z2 := Lib.hid z2
          have HF := Lib.hid (And.intro (HG.out.grown hgf hmf HC9.out.2) hgf)
          clear z1 z2 hgf hmf
          go_wp2
          exact bodyPost_ret (results_cnt1 (t1 := 6) (g := W.heap.size) Tryz.results170 rfl Z2.out) rfl ⟨by rw [HEQ.out], ⟨KF, HF.out.1⟩, HF.out.2⟩
    · rw [hyes] at hl
      generalize cnt N n f = ct at *
      unfold cntV at *
      generalize ct / 2 ^ 64 = hi at *
      generalize ct % 2 ^ 64 = lo at *
      have L1 : (Instr.lookup 267 (.map (some bm)) (.int .i32 f) true).run Tryz.prog (W.alloc (.cells #[.int .u64 0, .int .u64 0] 85)) = .ok (.tuple #[.agg #[.int .u64 (hi : Int), .int .u64 (lo : Int)], .bool true]) (W.alloc (.cells #[.int .u64 0, .int .u64 0] 85)) := hl
      clear hl hb1 hbk hg hyes hkf
      go_enter Tryz.func170, Tryz.ntmps170
      go_upto_region 1 with fail
      generalize W.alloc (.cells #[.int .u64 0, .int .u64 0] 85) = w1 at *
      go_upto_region 2 with fail
      have hb2 := below1 w1 (.cells #[.int .u64 (hi : Int), .int .u64 (lo : Int)] 85)
      have k2 := blk1 w1 (.cells #[.int .u64 (hi : Int), .int .u64 (lo : Int)] 85)
      have k1 := blk_below hb2 HK.out
      have HB2 := Lib.hid (HB.out.trans (hb2.mono HB.out.size))
      clear L1 c0 hb2
      generalize w1.alloc (.cells #[.int .u64 (hi : Int), .int .u64 (lo : Int)] 85) = w2 at *
      have K1 := Lib.hid k1
      obtain ⟨c0, c1, _, _⟩ := two_cells k2
      obtain ⟨d0, d1, e0, e1⟩ := two_cells k1
      have z1 : (w2.setCell ⟨W.heap.size, 0, none⟩ (.int .u64 (hi : Int))).heap[W.heap.size]? = some (.cells #[.int .u64 (hi : Int), .int .u64 0] 85 (0, 0)) := heap_setCell_same _ _ _ _ _ _ K1.out
      have z2 : ((w2.setCell ⟨W.heap.size, 0, none⟩ (.int .u64 (hi : Int))).setCell ⟨W.heap.size, 1, none⟩ (.int .u64 (lo : Int))).heap[W.heap.size]? = some (.cells #[.int .u64 (hi : Int), .int .u64 (lo : Int)] 85 (0, 0)) := heap_setCell_same _ _ _ _ _ _ z1
      have h1 := HB2.out.setCell (p := ⟨W.heap.size, 0, none⟩) (Nat.le_refl _) (.int .u64 (hi : Int))
      have h2 := h1.setCell (p := ⟨W.heap.size, 1, none⟩) (Nat.le_refl _) (.int .u64 (lo : Int))
      have Z2 := Lib.hid z2
      have H2 := Lib.hid h2
      clear z1 z2 h1 h2 k1 k2
      go_wp2
      exact bodyPost_ret (results_cnt1 (t1 := 6) (g := W.heap.size) Tryz.results170 rfl Z2.out) rfl ⟨rfl, _, HG.out.below H2.out, only_of_below H2.out _⟩
end
end Go.Proofs.YtbahehmfhjkgeaaGreat

/-
  bdd.Count at any set of variables' numbers.
-/
namespace Go.Proofs.YtbahehmfhjkgeaaGreat
open Go Go.RowKit Go.ChangeMaps Go.MapKept Go.Maps Go.Lib Go.Sort

theorem doneC0 (N : List Nd) (n : Nat) : DoneC N n cnt0 := by
  have g0 : getM cnt0 (.int .i32 0) = some (cntV (cnt N n 0)) := by
    rw [cnt_zero]
    unfold cnt0 putM getM cntV
    simp
  have g1 : getM cnt0 (.int .i32 1) = some (cntV (cnt N n 1)) := by
    rw [cnt_one, cnt0_1]
    rfl
  refine ⟨fun i hi => ?_, g0, g1, ?_⟩
  · by_cases h0 : i = 0
    · subst h0; exact .inr g0
    by_cases h1 : i = 1
    · subst h1; exact .inr g1
    left
    unfold cnt0 putM getM
    simp
    omega
  · unfold cnt0 putM
    simp
section
set_option maxRecDepth 100000
set_option maxHeartbeats 8000000
variable {B : Nat} {A : Blks} {V Mo : Nat} {N : List Nd} {H G : List Nat}
theorem bddCount_any {w : World} (hA : ArAt w B A V Mo N H G) (f : Nat) (hf : f ∈ G ∧ f < N.length) (n : Nat) (hn : n ≤ 120) (hV : 2 * n ≤ V) (hs : SupE N f n) (v : Value) (h : Rd w w.heap.size 1 v (varsL 0 n).length (icells (varsL 0 n))) :
    Calls Tryz.prog 82 #[A.val, .int .i64 f, v] w fun e w' => e = .returned (.tuple #[cntV (cnt N n f * 2 ^ plN N n f), .int .i64 0]) ∧ Below w.heap.size w w' := by
  have hwf : WF N := by obtain ⟨_, h⟩ := hA; exact h.wf
  have hle : N.length ≤ 2147483647 := by obtain ⟨_, h⟩ := hA; exact h.le
  have hll := varsL_len 0 n
  rw [hll] at h
  obtain ⟨PL, c, rfl, hc⟩ := h.form
  have f2 : (f : Int) ≤ 2147483646 := by have := hf.2; omega
  have hpl : (2 ≤ f → (nd N f).v = 2 * plN N n f ∧ plN N n f < n) := fun h2 => by
    have := plN_lt hwf hs (.refl _) h2 hf.2
    exact ⟨this.2.1, this.1⟩
  have hpn : plN N n f ≤ n := by
    rcases Nat.lt_or_ge f 2 with h2 | h2
    · unfold plN; rw [if_pos h2]; exact Nat.le_refl _
    · exact Nat.le_of_lt (hpl h2).2
  have hct : cnt N n f * 2 ^ plN N n f < 2 ^ 128 := by
    have h1 := cnt_le hwf hs (f + 1) f (Nat.lt_succ_self _) hf.2 (.refl _)
    have h2 : cnt N n f * 2 ^ plN N n f ≤ 2 ^ (n - plN N n f) * 2 ^ plN N n f := Nat.mul_le_mul_right _ h1
    rw [← Nat.pow_add, show n - plN N n f + plN N n f = n by omega] at h2
    exact Nat.lt_of_le_of_lt h2 (Nat.pow_lt_pow_right (by decide) (by omega))
  have hA0 := Lib.hid hA
  have hr0 := Lib.hid h
  have hb := (below1 w (.cells #[.pointer (some ⟨A.a, 0, none⟩)] 108)).trans ((below2 (w.alloc (.cells #[.pointer (some ⟨A.a, 0, none⟩)] 108)) (.cells #[.slice PL n c] 33) (.cells #[.int .u64 0, .int .u64 0] 85)).mono (below1 w (.cells #[.pointer (some ⟨A.a, 0, none⟩)] 108)).size)
  obtain ⟨k1, k2⟩ := blk2 (w.alloc (.cells #[.pointer (some ⟨A.a, 0, none⟩)] 108)) (.cells #[.slice PL n c] 33) (.cells #[.int .u64 0, .int .u64 0] 85)
  have k0 := blk_below (below2 (w.alloc (.cells #[.pointer (some ⟨A.a, 0, none⟩)] 108)) (.cells #[.slice PL n c] 33) (.cells #[.int .u64 0, .int .u64 0] 85)) (blk1 w (.cells #[.pointer (some ⟨A.a, 0, none⟩)] 108))
  have hs1 : (w.alloc (.cells #[.pointer (some ⟨A.a, 0, none⟩)] 108)).heap.size = w.heap.size + 1 := by simp
  rw [hs1] at k1 k2
  have HA := Lib.hid (hA.below hb)
  have HSU := Lib.hid hs
  have HWF := Lib.hid hwf
  have HPL0 := Lib.hid (And.intro hpl (And.intro hpn hct))
  clear hs hwf hpl hpn hct
  have HR := Lib.hid ((h.below hb).mono hb.size)
  have HB := Lib.hid hb
  have HK := Lib.hid (And.intro k0 (And.intro k1 k2))
  have H1 := Lib.hid hf
  clear hA h hb hs1 hf
  unfold Blks.val
  go_enter Tryz.func82, Tryz.ntmps82
  go_upto_region 1 with fail
  generalize ((w.alloc (.cells #[.pointer (some ⟨A.a, 0, none⟩)] 108)).alloc (.cells #[.slice PL n c] 33)).alloc (.cells #[.int .u64 0, .int .u64 0] 85) = w0 at *
  have c0 := cell0 k0
  have c1 := cell0 k1
  obtain ⟨d0, d1, _, _⟩ := two_cells k2
  clear k0 k1 k2
  have hch := (check_any (HA.out.below (below1 w0 (.cells #[.int .i64 f] 3))) [f] w0.heap.size 1 (fun i x hi => by
    have h0 : i = 0 := by
      have := (List.getElem?_eq_some_iff.1 hi).1
      simp at this
      omega
    subst h0
    injection hi with hi
    subst hi
    rw [cell_of_row _ _ 0 _ _ (0, 0) (blk1 w0 (.cells #[.int .i64 f] 3))]; rfl) (fun x hx => by rw [List.mem_singleton.1 hx]; exact ⟨H1.out.1, by have := H1.out.2; omega⟩) (by simp))
  unfold Blks.val at hch
  rw [List.length_singleton] at hch
  have HCH := Lib.hid hch
  clear hch
  go_upto_region 2 with ((with_reducible refine HCH.out.mono ?_); rintro e w2 ⟨rfl, hb2⟩; have HB2 := Lib.hid ((below1 w0 (.cells #[.int .i64 f] 3)).trans (hb2.mono (below1 w0 (.cells #[.int .i64 f] 3)).size)); clear hb2)
  have k0 := blk_below HB2.out HK.out.1
  have k1 := blk_below HB2.out HK.out.2.1
  have hrs : Calls Tryz.prog 167 #[.pointer (some ⟨A.a, 0, none⟩), .int .i64 f, .slice PL n c] w2 (fun e w' => e = .returned (.bool true) ∧ Below w2.heap.size w2 w') := rises_any (HA.out.below HB2.out) f H1.out (varsL 0 n) (fun i hi hr => by
    obtain ⟨j, hj, hv⟩ := HSU.out i hi hr
    exact List.mem_map.2 ⟨j, List.mem_range.2 hj, by rw [hv]; rfl⟩) (.slice PL n c) (by rw [hll]; exact (HR.out.below HB2.out).mono HB2.out.size) (fun x hx => by have := varsL_in n x hx; omega) (varsL_rise 0 n) (by omega)
  have HRS := Lib.hid hrs
  clear hrs HCH c0 c1 d0 d1
  have c0 := cell0 k0
  have c1 := cell0 k1
  clear k0 k1
  go_upto_region 4 with fail
  go_upto_region 6 with ((with_reducible refine HRS.out.mono ?_); rintro e w3 ⟨rfl, hb3⟩; have HB3 := Lib.hid (HB2.out.trans (hb3.mono HB2.out.size)); have e1 := cell0 (blk_below hb3 (blk_below HB2.out HK.out.2.1)); clear hb3)
  have hrs := @run_store_fn Tryz.prog
  have hmm := @run_makeMap Tryz.prog
  clear HRS
  go_upto_region 7 with fail
  have hb4 := below1 w3 (.cells #[.func (.func 168) #[] #[.pointer (some ⟨w.heap.size + 1, 0, none⟩), .pointer (some ⟨w.heap.size, 0, none⟩)]] 266)
  have k4 := blk1 w3 (.cells #[.func (.func 168) #[] #[.pointer (some ⟨w.heap.size + 1, 0, none⟩), .pointer (some ⟨w.heap.size, 0, none⟩)]] 266)
  have hz3 := HB3.out.size
  have HB4 := Lib.hid (HB3.out.trans (hb4.mono HB3.out.size))
  have HK4 := Lib.hid k4
  have HZ : Hid (w.heap.size + 1 + 1 < w3.heap.size) := Lib.hid (by have := lt_of_block HK.out.2.2; omega)
  clear e1 c0 c1 hb4 k4 hz3
  generalize w3.alloc (.cells #[.func (.func 168) #[] #[.pointer (some ⟨w.heap.size + 1, 0, none⟩), .pointer (some ⟨w.heap.size, 0, none⟩)]] 266) = w4 at *
  have hM := MapAt.made Tryz.prog 21 w4
  have hk0 := key_i32 (a := 0) (by omega)
  have hk1 := key_i32 (a := 1) (by omega)
  go_upto_region 8 with (first
    | (refine wpList_mapIns rfl _ _ _ 267 85 rfl i32_keyed Tryz.underlying267 rfl hM (.int .i32 0) (.agg #[.int .u64 0, .int .u64 0]) _ rfl rfl hk0 ?_; intro w5 hm5 hg5)
    | (refine wpList_mapIns rfl _ _ _ 267 85 rfl i32_keyed Tryz.underlying267 rfl hm5 (.int .i32 1) (.agg #[.int .u64 0, .int .u64 1]) _ rfl rfl hk1 ?_; intro w6 hm6 hg6))
  have hb6 : Below w4.heap.size w4 w6 := (below1 w4 (.map #[] 0)).grown (hg5.trans hg6) (below1 w4 (.map #[] 0)).size (fun g hg => by injection hg with hg; omega)
  have hm : MapAt Tryz.prog 21 w6 w4.heap.size cnt0 := hm6
  obtain ⟨q0, q1⟩ := blk2 w6 (.cells #[.map (some w4.heap.size)] 267) (.cells #[.nilFunc] 268)
  have hb7 := below2 w6 (.cells #[.map (some w4.heap.size)] 267) (.cells #[.nilFunc] 268)
  have hb8 := hb7.setCell (p := ⟨w6.heap.size + 1, 0, none⟩) (Nat.le_succ _) (.func (.func 170) #[] #[.pointer (some ⟨w6.heap.size, 0, none⟩), .pointer (some ⟨w.heap.size, 0, none⟩), .pointer (some ⟨w6.heap.size + 1, 0, none⟩), .pointer (some ⟨w3.heap.size, 0, none⟩)])
  have p1 := heap_setCell_same _ _ 0 _ _ (.func (.func 170) #[] #[.pointer (some ⟨w6.heap.size, 0, none⟩), .pointer (some ⟨w.heap.size, 0, none⟩), .pointer (some ⟨w6.heap.size + 1, 0, none⟩), .pointer (some ⟨w3.heap.size, 0, none⟩)]) q1
  have p0 := (Below.heap_setCell ((w6.alloc (.cells #[.map (some w4.heap.size)] 267)).alloc (.cells #[.nilFunc] 268)) ⟨w6.heap.size + 1, 0, none⟩ (.func (.func 170) #[] #[.pointer (some ⟨w6.heap.size, 0, none⟩), .pointer (some ⟨w.heap.size, 0, none⟩), .pointer (some ⟨w6.heap.size + 1, 0, none⟩), .pointer (some ⟨w3.heap.size, 0, none⟩)]) w6.heap.size (show w6.heap.size ≠ w6.heap.size + 1 by omega)).trans q0
  have hcw := cell0 q1
  have hfw := frozen_of_row _ _ 0 _ _ q1
  have HM8 := Lib.hid (hm.same (hb8.block _ hm.lt))
  have HP := Lib.hid (And.intro p0 (And.intro p1 (And.intro (blk_below hb8 (blk_below hb6 HK4.out)) (And.intro (blk_below hb8 (blk_below hb6 (blk_below HB4.out HK.out.2.1))) (And.intro (blk_below hb8 (blk_below hb6 (blk_below HB4.out HK.out.2.2))) (blk_below hb8 (blk_below hb6 (blk_below HB4.out HK.out.1))))))))
  have hsz := Nat.le_trans HB4.out.size hb6.size
  have HB8 := Lib.hid (HB.out.trans ((HB4.out.trans ((hb6.trans (hb8.mono hb6.size)).mono HB4.out.size)).mono HB.out.size))
  have HSZ : Hid (w.heap.size ≤ w4.heap.size ∧ w4.heap.size < w6.heap.size ∧ w3.heap.size < w4.heap.size) := Lib.hid ⟨Nat.le_trans HB.out.size HB4.out.size, hm.lt, lt_of_block HK4.out⟩
  have HZ6 : Hid (w3.heap.size < w6.heap.size) := Lib.hid (Nat.lt_of_lt_of_le (lt_of_block HK4.out) hb6.size)
  clear hb6 hm q0 q1 hb7 hb8 p0 p1 hM hk0 hk1 hm5 hg5 hm6 hg6 hmm hsz
  go_upto_region 9 with fail
  generalize ((w6.alloc (.cells #[.map (some w4.heap.size)] 267)).alloc (.cells #[.nilFunc] 268)) = w7 at *
  go_upto_region 10 with fail
  clear hcw hfw hrs
  generalize w7.setCell ⟨w6.heap.size + 1, 0, none⟩ (.func (.func 170) #[] #[.pointer (some ⟨w6.heap.size, 0, none⟩), .pointer (some ⟨w.heap.size, 0, none⟩), .pointer (some ⟨w6.heap.size + 1, 0, none⟩), .pointer (some ⟨w3.heap.size, 0, none⟩)]) = w8 at *
  have hlm : w4.heap.size < w8.heap.size := Nat.lt_trans HSZ.out.2.1 (lt_of_block HP.out.1)
  have hC8 : CSt A B V Mo N H G n PL c w.heap.size (w.heap.size + 1) w.heap.size w6.heap.size (w6.heap.size + 1) w3.heap.size w4.heap.size cnt0 w8 :=
    ⟨hA0.out.below HB8.out, hA0.out.foreign_new HB8.out HSZ.out.1 hlm, HP.out.2.2.2.1, HP.out.2.2.2.2.2, HP.out.1, HP.out.2.1, HP.out.2.2.1, HM8.out, doneC0 N n, by have := HSZ.out; have := HZ.out; have := HZ6.out; omega, hr0.out.below HB8.out, HSZ.out.1, hlm⟩
  have hdb : Below w8.heap.size w8 { w8 with drawn := w8.drawn + 1 } := ⟨rfl, rfl, rfl, Nat.le_refl _, fun _ _ => rfl⟩
  have HC0 := Lib.hid (hC8.below hdb)
  have HKR := Lib.hid (blk_below hdb HP.out.2.2.2.2.1)
  have HBB := Lib.hid (HB8.out.trans (hdb.mono HB8.out.size))
  obtain ⟨S, hS⟩ : ∃ S : World → Prop, S = (fun x => x.heap[w6.heap.size + 1]? = some (.cells #[.func (.func 170) #[] #[.pointer (some ⟨w6.heap.size, 0, none⟩), .pointer (some ⟨w.heap.size, 0, none⟩), .pointer (some ⟨w6.heap.size + 1, 0, none⟩), .pointer (some ⟨w3.heap.size, 0, none⟩)]] 268 (0, 0)) ∧ x.heap[w3.heap.size]? = some (.cells #[.func (.func 168) #[] #[.pointer (some ⟨w.heap.size + 1, 0, none⟩), .pointer (some ⟨w.heap.size, 0, none⟩)]] 266 (0, 0))) := ⟨_, rfl⟩
  have hSP : ∀ x : World, S x → x.heap[w6.heap.size + 1]? = some (.cells #[.func (.func 170) #[] #[.pointer (some ⟨w6.heap.size, 0, none⟩), .pointer (some ⟨w.heap.size, 0, none⟩), .pointer (some ⟨w6.heap.size + 1, 0, none⟩), .pointer (some ⟨w3.heap.size, 0, none⟩)]] 268 (0, 0)) ∧ x.heap[w3.heap.size]? = some (.cells #[.func (.func 168) #[] #[.pointer (some ⟨w.heap.size + 1, 0, none⟩), .pointer (some ⟨w.heap.size, 0, none⟩)]] 266 (0, 0)) := fun x h => by rw [hS] at h; exact h
  have hSI : ∀ K X, CSt A B V Mo N H G n PL c w.heap.size (w.heap.size + 1) w.heap.size w6.heap.size (w6.heap.size + 1) w3.heap.size w4.heap.size K X → S X := fun K X h => by rw [hS]; exact ⟨h.k, h.p⟩
  have hne : Nonempty (InW S) := ⟨⟨_, hSI _ _ HC0.out⟩⟩
  refine wp_region_mixS S [(0, false), (1, false), (2, false), (4, false), (5, false), (6, false), (3, true), (7, true), (8, true), (9, true), (10, false)] (by kernel_rfl) (by kernel_rfl) (hSI _ _ HC0.out) ?_
  have L0 : ∀ p : InW S, p.w.cell? ⟨w6.heap.size + 1, 0, none⟩ = some (.func (.func 170) #[] #[.pointer (some ⟨w6.heap.size, 0, none⟩), .pointer (some ⟨w.heap.size, 0, none⟩), .pointer (some ⟨w6.heap.size + 1, 0, none⟩), .pointer (some ⟨w3.heap.size, 0, none⟩)]) := fun p => cell0 (hSP _ p.h).1
  have L1 : ∀ p : InW S, p.w.cell? ⟨w3.heap.size, 0, none⟩ = some (.func (.func 168) #[] #[.pointer (some ⟨w.heap.size + 1, 0, none⟩), .pointer (some ⟨w.heap.size, 0, none⟩)]) := fun p => cell0 (hSP _ p.h).2
  have HSI := Lib.hid hSI
  have HSS := Lib.hid hS
  clear hdb hC8 hSI hS hSP
  generalize { w8 with drawn := w8.drawn + 1 } = V0 at *
  refine mix_take [0, 1, 2, 4, 5, 6] [_, _, _, _, _, _] rfl rfl ?_
  simp only [List.getElem_toArray, List.getElem_cons_zero, List.getElem_cons_succ]
  repeat (go_big_quiet_step (fail))
  refine wpQuiet_nil ?_
  have HN := Lib.hid hne
  clear L0 L1 hne
  refine mix_barS rfl (by rfl) ?_
  simp only [List.getElem_toArray, List.getElem_cons_zero, List.getElem_cons_succ]
  go_simp
  refine (cntWalk_any HSU.out hn (f + 1) f cnt0 V0 (Nat.lt_succ_self _) H1.out.2 (.refl _) HC0.out).mono ?_
  rintro e V1 ⟨rfl, K1, hC1, hg1⟩
  have HC1 := Lib.hid hC1
  have HB1 := Lib.hid (HBB.out.grown hg1 HBB.out.size (fun g hg => by injection hg with hg; have := HSZ.out.1; omega))
  have HK1 := Lib.hid ((hg1.block _ (lt_of_block HKR.out) (fun e => by injection e with e; have := HSZ.out; have := HZ.out; have := HZ6.out; omega)).trans HKR.out)
  clear hC1 hg1
  refine ⟨S, HSI.out _ _ HC1.out, fun _ h => h, ?_⟩
  refine mix_barS rfl (by rfl) ?_
  simp only [List.getElem_toArray, List.getElem_cons_zero, List.getElem_cons_succ]
  go_simp
  refine (place_any HC1.out.ar (w.heap.size + 1) w.heap.size PL c n f H1.out.2 (by omega) (cell0 HC1.out.o) (cell0 HC1.out.a) (HC1.out.rd.mono (by have := HC1.out.lm; omega)) HPL0.out.1).mono ?_
  rintro e V2 ⟨rfl, hb2⟩
  have HC2 := Lib.hid (HC1.out.below hb2)
  have HB2' := Lib.hid (HB1.out.trans (hb2.mono HB1.out.size))
  have HK2 := Lib.hid (blk_below hb2 HK1.out)
  clear hb2
  refine ⟨S, HSI.out _ _ HC2.out, fun _ h => h, ?_⟩
  refine mix_barS rfl (by rfl) ?_
  simp only [List.getElem_toArray, List.getElem_cons_zero, List.getElem_cons_succ]
  go_simp
  refine (times_any V2 (cnt N n f) (plN N n f) (by have := HPL0.out.2.1; omega) HPL0.out.2.2).mono ?_
  rintro e V3 ⟨rfl, hb3⟩
  have HC3 := Lib.hid (HC2.out.below hb3)
  have HB3' := Lib.hid (HB2'.out.trans (hb3.mono HB2'.out.size))
  have kr := blk_below hb3 HK2.out
  clear hb3
  refine ⟨S, HSI.out _ _ HC3.out, fun _ h => h, ?_⟩
  obtain ⟨r0, r1, z0, z1⟩ := two_cells kr
  unfold cntV
  obtain ⟨th, hth⟩ : ∃ th, cnt N n f * 2 ^ plN N n f / 2 ^ 64 = th := ⟨_, rfl⟩
  obtain ⟨tl, htl⟩ : ∃ tl, cnt N n f * 2 ^ plN N n f % 2 ^ 64 = tl := ⟨_, rfl⟩
  have HTT := Lib.hid (show cntV (cnt N n f * 2 ^ plN N n f) = .agg #[.int .u64 (th : Int), .int .u64 (tl : Int)] by unfold cntV; rw [hth, htl])
  rw [hth, htl]
  clear hth htl
  have y1 : (V3.setCell ⟨w.heap.size + 1 + 1, 0, none⟩ (.int .u64 th)).heap[w.heap.size + 1 + 1]? = some (.cells #[.int .u64 th, .int .u64 0] 85 (0, 0)) := heap_setCell_same _ _ _ _ _ _ kr
  have y2 : ((V3.setCell ⟨w.heap.size + 1 + 1, 0, none⟩ (.int .u64 th)).setCell ⟨w.heap.size + 1 + 1, 1, none⟩ (.int .u64 tl)).heap[w.heap.size + 1 + 1]? = some (.cells #[.int .u64 th, .int .u64 tl] 85 (0, 0)) := heap_setCell_same _ _ _ _ _ _ y1
  have h1 := HB3'.out.setCell (p := ⟨w.heap.size + 1 + 1, 0, none⟩) (show w.heap.size ≤ w.heap.size + 1 + 1 by omega) (.int .u64 th)
  have h2 := h1.setCell (p := ⟨w.heap.size + 1 + 1, 1, none⟩) (show w.heap.size ≤ w.heap.size + 1 + 1 by omega) (.int .u64 tl)
  have HS4 : Hid (S ((V3.setCell ⟨w.heap.size + 1 + 1, 0, none⟩ (.int .u64 th)).setCell ⟨w.heap.size + 1 + 1, 1, none⟩ (.int .u64 tl))) := Lib.hid (by
    have h := HSI.out _ _ HC3.out
    rw [HSS.out] at h ⊢
    have n1 := HSZ.out
    have n2 := HZ.out
    have n3 := HZ6.out
    refine ⟨?_, ?_⟩
    · exact set_far (p := ⟨w.heap.size + 1 + 1, 1, none⟩) (u := .int .u64 tl) (set_far (p := ⟨w.heap.size + 1 + 1, 0, none⟩) (u := .int .u64 th) h.1 (by show w6.heap.size + 1 ≠ w.heap.size + 1 + 1; omega)) (by show w6.heap.size + 1 ≠ w.heap.size + 1 + 1; omega)
    · exact set_far (p := ⟨w.heap.size + 1 + 1, 1, none⟩) (u := .int .u64 tl) (set_far (p := ⟨w.heap.size + 1 + 1, 0, none⟩) (u := .int .u64 th) h.2 (by show w3.heap.size ≠ w.heap.size + 1 + 1; omega)) (by show w3.heap.size ≠ w.heap.size + 1 + 1; omega))
  have HY := Lib.hid y2
  have HH := Lib.hid h2
  clear y1 y2 h1 h2 kr
  refine mix_barS rfl (by rfl) ?_
  simp only [List.getElem_toArray, List.getElem_cons_zero, List.getElem_cons_succ]
  go_simp
  refine ⟨S, HS4.out, fun _ h => h, ?_⟩
  have HN2 := HN.out
  refine mix_take [10] [_] rfl rfl ?_
  simp only [List.getElem_toArray, List.getElem_cons_zero, List.getElem_cons_succ]
  repeat (go_big_quiet_step (fail))
  refine wpQuiet_nil ?_
  refine mix_end ?_
  go_wp2
  exact bodyPost_ret (results_cnt2 (t1 := 6) (t3 := 7) (g := w.heap.size + 1 + 1) Tryz.results82 rfl rfl HY.out) rfl ⟨by rw [HTT.out]; rfl, HH.out⟩
end
end Go.Proofs.YtbahehmfhjkgeaaGreat

/-
  A space's Count of any set.
-/
namespace Go.Proofs.YtbahehmfhjkgeaaGreat
open Go Go.RowKit Go.ChangeMaps Go.MapKept Go.Maps Go.Lib Go.Sort

section
set_option maxRecDepth 100000
set_option maxHeartbeats 4000000
variable {w : World} {B S km : Nat} {A : Blks} {Mo : Nat} {σ : Sg}
/-- The variables of a set are even. -/
theorem Den.supE {a : Nat} {F : Fun} (d : Den σ a F) (o : SgOk Mo σ) (sf : SetF F) : SupE σ.N a 104 := by
  intro i h2 hr
  have hlt := (o.g a d.1).1
  have hnf := not_free o.wf hlt hr h2
  have e : (fun s => ev σ.N s a) = F := funext d.2
  rw [e] at hnf
  have hev : (nd σ.N i).v % 2 = 0 := by
    rcases Nat.mod_two_eq_zero_or_one (nd σ.N i).v with h | h
    · exact h
    · exact absurd (sf _ h) hnf
  have hh := d.hangs o
  have hv : (nd σ.N i).v < 208 := by
    rcases Nat.lt_or_ge (nd σ.N i).v 208 with h | h
    · exact h
    · exact absurd (hh.free (.inr h)) hnf
  exact ⟨(nd σ.N i).v / 2, by omega, by omega⟩
theorem relCount_any (h : SpOk w B S km A Mo σ) {a : Nat} {F : Fun} (hd : Den σ a F) (sf : SetF F) :
    Calls Tryz.prog 24 #[.pointer (some ⟨S, 0, none⟩), .int .i64 a] w (SpSame w B S km A Mo σ (.tuple #[cntV (numF F 104 0 fun _ => false), .int .i64 0])) := by
  have hlt := (h.ok.g a hd.1).1
  have hfl := hd.lt64 h.ok
  have hsup := hd.supE h.ok sf
  have HD0 := Lib.hid (And.intro hd.1 hlt)
  have HSUP := Lib.hid hsup
  have hnum : numF F 104 0 (fun _ => false) = cnt σ.N 104 a * 2 ^ plN σ.N 104 a := by
    have e : (fun s => ev σ.N s a) = F := funext hd.2
    have h1 := num_all h.ok.wf hsup hlt (fun _ => false)
    rw [e] at h1
    exact h1
  rw [hnum]
  have hb := below1 w (.cells #[.int .u64 0, .int .u64 0] 85)
  have hk := blk1 w (.cells #[.int .u64 0, .int .u64 0] 85)
  have h1 := h.below hb
  have HK0 := Lib.hid (h.kept hb)
  have HF := Lib.hid (h.sp.ar.foreign_new hb (Nat.le_refl _) (lt_of_block hk))
  have HN : Hid (w.heap.size ≠ km ∧ w.heap.size ≠ S) := Lib.hid ⟨by have := h.sp.fk.1; omega, by have := lt_of_block h.sp.cells; omega⟩
  have HB := Lib.hid hk
  have HCK := Lib.hid (h1.check1 a (by unfold I64; omega))
  have OK : Hid (AllNum σ [(a : Int)] []) := Lib.hid (allOk1 hd sf)
  clear hb hk h1 h hd sf hnum hsup hlt
  go_enter Tryz.func24, Tryz.ntmps24
  go_upto_region 1 with fail
  generalize w.alloc (.cells #[.int .u64 0, .int .u64 0] 85) = w1 at *
  go_upto_region 2 with ((with_reducible refine HCK.out.mono ?_); rintro e W2 hr; obtain ⟨he, K, hs2, hk2⟩ := hr.yes OK.out; subst he; have HS2 := Lib.hid hs2; have HK2 := Lib.hid (HK0.out.trans hk2); have HX2 := Lib.hid (hk2.same _ HF.out HN.out.1); clear hr hs2 hk2)
  clear HCK OK
  go_upto_region 4 with fail
  have c0 := HS2.out.sp.c0
  have kr := HX2.out.1.trans HB.out
  have hne : Nonempty (InW (fun x => W2.grownBy x (some w.heap.size))) := ⟨⟨W2, World.grownBy.refl _ _⟩⟩
  refine wp_region_mixS (fun x => W2.grownBy x (some w.heap.size)) [(0, false), (1, false), (2, false), (3, false), (4, false), (5, true), (6, true), (7, false), (8, false), (9, true), (10, false)] (by kernel_rfl) (by kernel_rfl) ⟨rfl, rfl, rfl, Nat.le_refl _, fun _ _ _ => rfl⟩ ?_
  have L0 : ∀ p : InW (fun x => W2.grownBy x (some w.heap.size)), p.w.cell? ⟨S, 0, none⟩ = some (.pointer (some ⟨A.a, 0, none⟩)) := fun p => (World.cell?_of_block (p.h.block _ (lt_of_block HS2.out.sp.cells) (fun e => by injection e with e; exact HN.out.2 e.symm))).trans c0
  have hdb : Below W2.heap.size W2 { W2 with drawn := W2.drawn + 1 } := ⟨rfl, rfl, rfl, Nat.le_refl _, fun _ _ => rfl⟩
  generalize { W2 with drawn := W2.drawn + 1 } = V0 at *
  refine mix_take [0, 1, 2, 3, 4] [_, _, _, _, _] rfl rfl ?_
  simp only [List.getElem_toArray, List.getElem_cons_zero, List.getElem_cons_succ]
  repeat (go_big_quiet_step (fail))
  refine wpQuiet_nil ?_
  have HDB := Lib.hid hdb
  have KR := Lib.hid kr
  clear L0 hdb c0 kr
  refine mix_barS rfl (by rfl) ?_
  simp only [List.getElem_toArray, List.getElem_cons_zero, List.getElem_cons_succ]
  go_simp
  refine (all_any V0 nowF).mono ?_
  rintro e V1 ⟨v1, rfl, ho1, hb1⟩
  obtain ⟨P1, c1, hv1, _⟩ := owns_form ho1
  subst hv1
  have HD1 := Lib.hid (HDB.out.trans (hb1.mono HDB.out.size))
  have HG1 : Hid (W2.grownBy V1 (some w.heap.size)) := Lib.hid ⟨HD1.out.os, HD1.out.tape, HD1.out.output, HD1.out.size, fun i hi _ => HD1.out.block i hi⟩
  have HS1 := Lib.hid (HS2.out.below HD1.out)
  have hrd := Rd.of_own ho1
  have hc1 := bddCount_any HS1.out.sp.ar a HD0.out 104 (by omega) (by omega) HSUP.out (.slice P1 104 c1) (by rw [varsL_len]; exact hrd)
  unfold Blks.val at hc1
  have HC := Lib.hid hc1
  clear hb1 ho1 hrd hc1
  refine ⟨(fun x => W2.grownBy x (some w.heap.size)), HG1.out, fun _ h => h, ?_⟩
  refine mix_barS rfl (by rfl) ?_
  simp only [List.getElem_toArray, List.getElem_cons_zero, List.getElem_cons_succ]
  go_simp
  refine HC.out.mono ?_
  rintro e V2 ⟨rfl, hb2⟩
  have HD2 := Lib.hid (HD1.out.trans (hb2.mono HD1.out.size))
  have HG2 : Hid (W2.grownBy V2 (some w.heap.size)) := Lib.hid ⟨HD2.out.os, HD2.out.tape, HD2.out.output, HD2.out.size, fun i hi _ => HD2.out.block i hi⟩
  clear hb2 HC
  refine ⟨(fun x => W2.grownBy x (some w.heap.size)), HG2.out, fun _ h => h, ?_⟩
  refine mix_take [7, 8] [_, _] rfl rfl ?_
  simp only [List.getElem_toArray, List.getElem_cons_zero, List.getElem_cons_succ]
  repeat (go_big_quiet_step (fail))
  refine wpQuiet_nil ?_
  have kr := blk_below HD2.out KR.out
  unfold cntV
  obtain ⟨th, hth⟩ : ∃ th, cnt σ.N 104 a * 2 ^ plN σ.N 104 a / 2 ^ 64 = th := ⟨_, rfl⟩
  obtain ⟨tl, htl⟩ : ∃ tl, cnt σ.N 104 a * 2 ^ plN σ.N 104 a % 2 ^ 64 = tl := ⟨_, rfl⟩
  have HTT := Lib.hid (show cntV (cnt σ.N 104 a * 2 ^ plN σ.N 104 a) = .agg #[.int .u64 (th : Int), .int .u64 (tl : Int)] by unfold cntV; rw [hth, htl])
  rw [show (σ.know K).N = σ.N from rfl, hth, htl]
  clear hth htl
  obtain ⟨r0, r1, z0, z1⟩ := two_cells kr
  have y1 : (V2.setCell ⟨w.heap.size, 0, none⟩ (.int .u64 th)).heap[w.heap.size]? = some (.cells #[.int .u64 th, .int .u64 0] 85 (0, 0)) := heap_setCell_same _ _ _ _ _ _ kr
  have y2 : ((V2.setCell ⟨w.heap.size, 0, none⟩ (.int .u64 th)).setCell ⟨w.heap.size, 1, none⟩ (.int .u64 tl)).heap[w.heap.size]? = some (.cells #[.int .u64 th, .int .u64 tl] 85 (0, 0)) := heap_setCell_same _ _ _ _ _ _ y1
  have hg4 : W2.grownBy ((V2.setCell ⟨w.heap.size, 0, none⟩ (.int .u64 th)).setCell ⟨w.heap.size, 1, none⟩ (.int .u64 tl)) (some w.heap.size) := only_setCell (only_setCell HG2.out (.inl rfl) _) (.inl rfl) _
  obtain ⟨s1, s2, s3⟩ := HS2.out.others hg4 (fun g hg => by injection hg with hg; subst hg; exact ⟨HX2.out.2, HN.out⟩)
  have HG4 := Lib.hid hg4
  have HY := Lib.hid y2
  have HFIN : Hid (∃ K, SpOk ((V2.setCell ⟨w.heap.size, 0, none⟩ (.int .u64 th)).setCell ⟨w.heap.size, 1, none⟩ (.int .u64 tl)) B S km A Mo (σ.know K) ∧ KeptS A km w ((V2.setCell ⟨w.heap.size, 0, none⟩ (.int .u64 th)).setCell ⟨w.heap.size, 1, none⟩ (.int .u64 tl))) := Lib.hid ⟨K, s1, HK2.out.others hg4 (fun g hg => by injection hg with hg; omega) s2⟩
  clear y1 y2 kr hg4 s1 s2 s3
  refine mix_barS rfl (by rfl) ?_
  simp only [List.getElem_toArray, List.getElem_cons_zero, List.getElem_cons_succ]
  go_simp
  refine ⟨(fun x => W2.grownBy x (some w.heap.size)), HG4.out, fun _ h => h, ?_⟩
  refine mix_take [10] [_] rfl rfl ?_
  simp only [List.getElem_toArray, List.getElem_cons_zero, List.getElem_cons_succ]
  repeat (go_big_quiet_step (fail))
  refine wpQuiet_nil ?_
  refine mix_end ?_
  go_wp2
  exact bodyPost_ret (results_cnt2 (t1 := 4) (t3 := 5) (g := w.heap.size) Tryz.results24 rfl rfl HY.out) rfl ⟨by rw [HTT.out]; rfl, HFIN.out⟩
theorem relCount_no (h : SpOk w B S km A Mo σ) (x : Int) (hx : I64 x) (ok : ¬ AllNum σ [x] []) :
    Calls Tryz.prog 24 #[.pointer (some ⟨S, 0, none⟩), .int .i64 x] w (SpSame w B S km A Mo σ (.tuple #[.agg #[.int .u64 0, .int .u64 0], .int .i64 1])) := by
  have hb := below1 w (.cells #[.int .u64 0, .int .u64 0] 85)
  have hk := blk1 w (.cells #[.int .u64 0, .int .u64 0] 85)
  have h1 := h.below hb
  have HK0 := Lib.hid (h.kept hb)
  have HF := Lib.hid (h.sp.ar.foreign_new hb (Nat.le_refl _) (lt_of_block hk))
  have HN : Hid (w.heap.size ≠ km ∧ w.heap.size ≠ S) := Lib.hid ⟨by have := h.sp.fk.1; omega, by have := lt_of_block h.sp.cells; omega⟩
  have HB := Lib.hid hk
  have HCK := Lib.hid (h1.check1 x hx)
  clear hb hk h1 h
  go_enter Tryz.func24, Tryz.ntmps24
  go_upto_region 1 with fail
  generalize w.alloc (.cells #[.int .u64 0, .int .u64 0] 85) = w1 at *
  go_upto_region 2 with ((with_reducible refine HCK.out.mono ?_); rintro e W2 hr; obtain ⟨he, K, hs2, hk2⟩ := hr.no ok; subst he; have HS2 := Lib.hid hs2; have HK2 := Lib.hid (HK0.out.trans hk2); have HX2 := Lib.hid (hk2.same _ HF.out HN.out.1); clear hr hs2 hk2)
  clear HCK
  have kr := HX2.out.1.trans HB.out
  obtain ⟨r0, r1, z0, z1⟩ := two_cells kr
  have hgr := World.grownBy.refl W2 (some w.heap.size)
  have hg1 : W2.grownBy (W2.setCell ⟨w.heap.size, 0, none⟩ (.int .u64 0)) (some w.heap.size) := only_setCell hgr (.inl rfl) _
  have hg4 : W2.grownBy ((W2.setCell ⟨w.heap.size, 0, none⟩ (.int .u64 0)).setCell ⟨w.heap.size, 1, none⟩ (.int .u64 0)) (some w.heap.size) := only_setCell hg1 (.inl rfl) _
  obtain ⟨s1, s2, s3⟩ := HS2.out.others hg4 (fun g hg => by injection hg with hg; subst hg; exact ⟨HX2.out.2, HN.out⟩)
  have HFIN : Hid (∃ K, SpOk ((W2.setCell ⟨w.heap.size, 0, none⟩ (.int .u64 0)).setCell ⟨w.heap.size, 1, none⟩ (.int .u64 0)) B S km A Mo (σ.know K) ∧ KeptS A km w ((W2.setCell ⟨w.heap.size, 0, none⟩ (.int .u64 0)).setCell ⟨w.heap.size, 1, none⟩ (.int .u64 0))) := Lib.hid ⟨K, s1, HK2.out.others hg4 (fun g hg => by injection hg with hg; omega) s2⟩
  have y1 : (W2.setCell ⟨w.heap.size, 0, none⟩ (.int .u64 0)).heap[w.heap.size]? = some (.cells #[.int .u64 0, .int .u64 0] 85 (0, 0)) := heap_setCell_same _ _ _ _ _ _ kr
  have y2 : ((W2.setCell ⟨w.heap.size, 0, none⟩ (.int .u64 0)).setCell ⟨w.heap.size, 1, none⟩ (.int .u64 0)).heap[w.heap.size]? = some (.cells #[.int .u64 0, .int .u64 0] 85 (0, 0)) := heap_setCell_same _ _ _ _ _ _ y1
  have HY := Lib.hid y2
  clear y1 y2 kr hg4 hg1 hgr s1 s2 s3
  go_wp2
  exact bodyPost_ret (results_cnt2 (t1 := 4) (t3 := 5) (g := w.heap.size) Tryz.results24 rfl rfl HY.out) rfl ⟨rfl, HFIN.out⟩
end
end Go.Proofs.YtbahehmfhjkgeaaGreat

/-
  Numbers in their one form (plain; no program in sight): what the program's 'number' and the document's 'Read' read.
-/
namespace Go.Proofs.YtbahehmfhjkgeaaGreat
open Go

def isDig (c : UInt8) : Bool := decide (48 ≤ c.toNat) && decide (c.toNat ≤ 57)
def valD (acc : Nat) (l : List UInt8) : Nat := l.foldl (fun n c => 10 * n + (c.toNat - 48)) acc
/-- The number of a text in its one form, at most m. -/
def readB (l : List UInt8) (m : Nat) : Option Nat :=
  if l = [] ∨ (1 < l.length ∧ l.head? = some 48) ∨ l.all isDig = false then none else if valD 0 l ≤ m then some (valD 0 l) else none

/-- A text cut at each byte c. -/
def pieces (c : UInt8) : List UInt8 → List (List UInt8)
  | [] => [[]]
  | x :: r => if x = c then [] :: pieces c r else (x :: (pieces c r).headD []) :: (pieces c r).tail
/-- The address of a text. -/
def parseB (l : List UInt8) : Option Nat :=
  match pieces 46 l with
  | [a, b, c, d] =>
    match readB a 255, readB b 255, readB c 255, readB d 255 with
    | some a, some b, some c, some d => some (((a * 256 + b) * 256 + c) * 256 + d)
    | _, _, _, _ => none
  | _ => none
/-- An address's text. -/
def textB (a : Nat) : List UInt8 := Lib.join [Lib.decDigits (a / 16777216 % 256), Lib.decDigits (a / 65536 % 256), Lib.decDigits (a / 256 % 256), Lib.decDigits (a % 256)] [46]
end Go.Proofs.YtbahehmfhjkgeaaGreat

/-
  Walks over the addresses' texts: what the library's tables and errors are asked for; number.
-/
namespace Go.Proofs.YtbahehmfhjkgeaaGreat
open Go Go.RowKit Go.Sort

/-- The address's numbers so far. -/
def accB (p : List (List UInt8)) : Nat → Option Nat
  | 0 => some 0
  | k + 1 => match accB p k, (p[k]?).bind (readB · 255) with
    | some a, some n => some (a * 256 + n)
    | _, _ => none
/-- What Parse hands back. -/
def adE (o : Option Nat) : Int := if o.isSome then 0 else 4
def adV (o : Option Nat) : Int := ((o.getD 0 : Nat) : Int)
end Go.Proofs.YtbahehmfhjkgeaaGreat

/-
  Walks over the addresses' texts: Parse.
-/
namespace Go.Proofs.YtbahehmfhjkgeaaGreat
open Go Go.RowKit Go.Sort

theorem u32_orN (a b : Nat) (ha : a < 4294967296) (hb : b < 4294967296) : bits .or .u32 (a : Int) (b : Int) = ((a ||| b : Nat) : Int) := by
  rw [u32_or _ _ (by omega) (by omega) (by omega) (by omega), Int.toNat_natCast, Int.toNat_natCast]
theorem or_byte (n v : Nat) (hn : n < 16777216) (hv : v < 256) : bits .or .u32 ((n : Int) * 256 % 4294967296) ((v : Int) % 4294967296) = ((n * 256 + v : Nat) : Int) := by
  have e1 : (n : Int) * 256 % 4294967296 = ((n * 256 : Nat) : Int) := by rw [Int.emod_eq_of_lt (by omega) (by omega)]; simp
  have e2 : (v : Int) % 4294967296 = (v : Int) := by omega
  have h := Nat.shiftLeft_add_eq_or_of_lt (b := v) (i := 8) (by omega) n
  rw [Nat.shiftLeft_eq, show (2 : Nat) ^ 8 = 256 from rfl] at h
  rw [e1, e2, h]
  exact u32_orN (n * 256) v (by omega) (by omega)
end Go.Proofs.YtbahehmfhjkgeaaGreat

/-
  Walks over the addresses' layer: Mask, Bits, Subnet; the program's and the reference's.
-/
namespace Go.Proofs.YtbahehmfhjkgeaaGreat
open Go Go.RowKit Go.Sort

/-- The mask of so many bits, and the refusal. -/
def maskA (n : Int) : Int := if n < 0 ∨ 32 < n then 0 else 4294967296 - sz n
def argE (n : Int) : Int := if n < 0 ∨ 32 < n then 1 else 0
/-- Of how many bits a mask is, and the refusal. -/
def bitsN (m : Int) : Int := if maskA (lz32 (4294967295 - m)) = m then lz32 (4294967295 - m) else 0
def bitsE (m : Int) : Int := if maskA (lz32 (4294967295 - m)) = m then 0 else 10
end Go.Proofs.YtbahehmfhjkgeaaGreat

/-
  Walks over the addresses' layer: Subnet, Ends; the program's and the reference's.
-/
namespace Go.Proofs.YtbahehmfhjkgeaaGreat
open Go Go.RowKit Go.Sort

/-- The first address of a subnet of so many bits. -/
def subA (a n : Int) : Int := if n < 0 ∨ 32 < n then 0 else a - a % sz n
def subN (n : Int) : Int := if n < 0 ∨ 32 < n then 0 else n
theorem sub_yes {n : Int} (a : Int) (h0 : 0 ≤ n) (h1 : n ≤ 32) : subA a n = a - a % sz n ∧ subN n = n ∧ argE n = 0 := ⟨if_neg (by omega), if_neg (by omega), if_neg (by omega)⟩
theorem mod_le (a n : Int) (h0 : 0 ≤ a) : 0 ≤ a % sz n ∧ a % sz n ≤ a ∧ a % sz n < sz n ∧ a / sz n * sz n = a - a % sz n ∧ 0 ≤ a / sz n := by
  have hp := sz_pos n
  have l1 := Int.emod_nonneg a (by omega : sz n ≠ 0)
  have l2 := Int.emod_lt_of_pos a (by omega : 0 < sz n)
  have e1 := Int.emod_add_mul_ediv a (sz n)
  have e3 := Int.ediv_nonneg h0 (by omega : 0 ≤ sz n)
  have e2 := Int.mul_nonneg (by omega : 0 ≤ sz n) e3
  rw [Int.mul_comm (a / sz n)]
  omega
/-- The last address of a prefix that may be. -/
def endA (a n : Int) : Int := if chk a n = 0 then a else 0
def endB (a n : Int) : Int := if chk a n = 0 then a + sz n - 1 else 0
theorem end_le (a n : Int) (hb : a < 4294967296) (h : a % sz n = 0) : a + sz n - 1 < 4294967296 := by
  obtain ⟨c, hc⟩ := sz_dvd n
  have hp := sz_pos n
  have e1 := Int.emod_add_mul_ediv a (sz n)
  rw [h] at e1
  have : sz n * (a / sz n) < sz n * c := by omega
  have h3 : a / sz n < c := Int.lt_of_mul_lt_mul_left this (by omega)
  have h4 : sz n * (a / sz n + 1) ≤ sz n * c := Int.mul_le_mul_of_nonneg_left (by omega) (by omega)
  rw [Int.mul_add] at h4
  omega

end Go.Proofs.YtbahehmfhjkgeaaGreat
