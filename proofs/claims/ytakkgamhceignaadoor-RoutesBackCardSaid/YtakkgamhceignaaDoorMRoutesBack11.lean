/-
  Joined texts: Rt6, RtEq, Aw8, Sp1, OpenS, Sp2, Sp3.
-/
import Derived.Test.YtakkgamhceignaaDoorMRoutesBack9
import Derived.Test.YtakkgamhceignaaDoorMRoutesBack10
import Derived.Deep.DeepCutAuto
import Derived.Test.YtakkgamhceignaaDoorMRoutesBack8
import Derived.Test.YtakkgamhceignaaDoorMRoutesBack6
import Derived.Test.YtakkgamhceignaaDoorMRoutesBack4
import Derived.Test.YtakkgamhceignaaDoorShelf4
import Derived.Deep.RegionHeld3
import Derived.Deep.Slices
import Derived.ChangeSame
import Derived.Lib.LaidU8
import Derived.OpenShut
import Derived.WideShapes
import Derived.ChangeMaps5
import Derived.Laws.OwnMore
import Derived.Test.YtakkgamhceignaaDoorMRoutesBack7
import Derived.StillTailTactics
/-
  The walk of routes.Parse (written by wip/gen/genrt6.py).
-/
namespace Go.Proofs.YtakkgamhceignaaDoor
open Go Go.RowKit Go.Lib Go.Sort

theorem pieces_cnt (c : UInt8) : ∀ (l : List UInt8), (pieces c l).length ≤ l.length + 1
  | [] => by simp [pieces]
  | x :: r => by
    have h := pieces_cnt c r
    rw [pieces]
    split
    · simp; omega
    · simp; omega
/-- The words of where routes come from, as the program has them. -/
def fromsB : List ByteArray := fromsL.map fun l => ⟨l.toArray⟩
theorem idx_list (x : ByteArray) : ∀ (zs : List (List UInt8)) (i : Nat), Lib.idxFromS (zs.map fun l => ⟨l.toArray⟩) x i = match zs.idxOf? x.data.toList with | some k => ((i + k : Nat) : Int) | none => -1
  | [], i => rfl
  | z :: zs, i => by
    rw [List.map_cons, Lib.idxFromS, List.idxOf?_cons]
    by_cases h : z = x.data.toList
    · have h1 : (⟨z.toArray⟩ : ByteArray) = x := by rw [h]
      rw [if_pos h1]
      simp [h]
    · have h1 : ¬ (⟨z.toArray⟩ : ByteArray) = x := fun e => h (by rw [← e])
      rw [if_neg h1, idx_list x zs (i + 1)]
      have h2 : (z == x.data.toList) = false := by simpa using h
      rw [h2]
      cases zs.idxOf? x.data.toList with
      | none => rfl
      | some k => simp only [Bool.false_eq_true, if_false, Option.map_some]; congr 1; omega
theorem max_from (x : ByteArray) : max 0 (Lib.idxOfS fromsB x) = fromI x.data.toList := by
  unfold Lib.idxOfS fromsB fromI
  rw [idx_list]
  cases h : fromsL.idxOf? x.data.toList with
  | none => decide
  | some k => exact (by omega : max (0 : Int) ((0 + k : Nat) : Int) = ((k : Nat) : Int))
theorem froms_cells {V : World} {g : Nat} (h : V.heap[g]? = some (.cells fromsBlk 9 (0, 0))) : ∀ j, j < fromsB.length → V.cell? ⟨g, 0 + j, none⟩ = some (.string (fromsB.getD j ByteArray.empty)) := by
  intro j hj
  rw [Nat.zero_add, cell_of_row V g j fromsBlk 9 (0, 0) h]
  have hj9 : j < 9 := hj
  rcases (by omega : j = 0 ∨ j = 1 ∨ j = 2 ∨ j = 3 ∨ j = 4 ∨ j = 5 ∨ j = 6 ∨ j = 7 ∨ j = 8) with rfl | rfl | rfl | rfl | rfl | rfl | rfl | rfl | rfl <;> rfl
theorem index_from (x : ByteArray) (V : World) (g : Nat) (h : V.heap[g]? = some (.cells fromsBlk 9 (0, 0))) :
    Calls Tryd.prog 31 #[.slice (some ⟨g, 0, none⟩) 9 9, .string x] V fun e V' => e = .returned (.int .i64 (Lib.idxOfS fromsB x)) ∧ V' = V := by
  have := Tryd.slices_Index_string g 0 9 9 fromsB x V (Nat.le_refl _) (by decide) (froms_cells h)
  rwa [show fromsB.take 9 = fromsB from rfl] at this
theorem idx_range (x : ByteArray) : -1 ≤ Lib.idxOfS fromsB x ∧ Lib.idxOfS fromsB x < 9 := by
  have h1 := max_from x
  have h2 := fromI_lt x.data.toList
  by_cases h : 0 ≤ Lib.idxOfS fromsB x
  · omega
  · have h3 : Lib.idxOfS fromsB x = -1 := by
      unfold Lib.idxOfS fromsB at h ⊢
      rw [idx_list] at h ⊢
      cases hk : fromsL.idxOf? x.data.toList with
      | none => rfl
      | some k => rw [hk] at h; exact absurd (by simp) h
    omega

/-- The hop that words begin with, and what is behind it; then the name. -/
def hopS (w : List (List UInt8)) : Int × List (List UInt8) := match w with
  | v :: x :: t => if v = viaW then (adV (parseB x), t) else (0, w)
  | _ => (0, w)
def nmS (w : List (List UInt8)) : List UInt8 × List (List UInt8) := match w with
  | v :: x :: t => if v = onW then (x, t) else ([], w)
  | _ => ([], w)
theorem restR_steps (w : List (List UInt8)) : restR w = ((hopS w).1, (nmS (hopS w).2).1, !(nmS (hopS w).2).2.isEmpty) := rfl
/-- Do words begin with a word and one more? -/
def begB (c : List UInt8) (R : List ByteArray) : Bool := match R with
  | v :: _ :: _ => decide (v.data.toList = c)
  | _ => false
theorem hop_of {R : List ByteArray} (h : begB viaW R = false) : hopS (R.map (·.data.toList)) = (0, R.map (·.data.toList)) := by
  match R, h with
  | [], _ => rfl
  | [_], _ => rfl
  | v :: x :: t, h => exact if_neg (of_decide_eq_false h)
theorem nm_of {R : List ByteArray} (h : begB onW R = false) : nmS (R.map (·.data.toList)) = ([], R.map (·.data.toList)) := by
  match R, h with
  | [], _ => rfl
  | [_], _ => rfl
  | v :: x :: t, h => exact if_neg (of_decide_eq_false h)
theorem beg_two {c : List UInt8} {R : List ByteArray} (h : begB c R = true) : ∃ v x t, R = v :: x :: t ∧ v.data.toList = c := by
  match R, h with
  | v :: x :: t, h => exact ⟨v, x, t, rfl, of_decide_eq_true h⟩
theorem hop_yes {v x : List UInt8} {t : List (List UInt8)} (h : v = viaW) : hopS (v :: x :: t) = (adV (parseB x), t) := if_pos h
theorem hop_no {v x : List UInt8} {t : List (List UInt8)} (h : ¬ v = viaW) : hopS (v :: x :: t) = (0, v :: x :: t) := if_neg h
theorem nm_yes {v x : List UInt8} {t : List (List UInt8)} (h : v = onW) : nmS (v :: x :: t) = (x, t) := if_pos h
theorem nm_no {v x : List UInt8} {t : List (List UInt8)} (h : ¬ v = onW) : nmS (v :: x :: t) = ([], v :: x :: t) := if_neg h

theorem qset0 {w : World} {g : Nat} {v0 v1 v2 v3 v4 v5 v6 v7 v8 u : Value} {t : TypeId} (h : w.heap[g]? = some (.cells #[v0, v1, v2, v3, v4, v5, v6, v7, v8] t (0, 0))) : (w.setCell ⟨g, 0, none⟩ u).heap[g]? = some (.cells #[u, v1, v2, v3, v4, v5, v6, v7, v8] t (0, 0)) := set_at h
theorem qset1 {w : World} {g : Nat} {v0 v1 v2 v3 v4 v5 v6 v7 v8 u : Value} {t : TypeId} (h : w.heap[g]? = some (.cells #[v0, v1, v2, v3, v4, v5, v6, v7, v8] t (0, 0))) : (w.setCell ⟨g, 1, none⟩ u).heap[g]? = some (.cells #[v0, u, v2, v3, v4, v5, v6, v7, v8] t (0, 0)) := set_at h
theorem qset2 {w : World} {g : Nat} {v0 v1 v2 v3 v4 v5 v6 v7 v8 u : Value} {t : TypeId} (h : w.heap[g]? = some (.cells #[v0, v1, v2, v3, v4, v5, v6, v7, v8] t (0, 0))) : (w.setCell ⟨g, 2, none⟩ u).heap[g]? = some (.cells #[v0, v1, u, v3, v4, v5, v6, v7, v8] t (0, 0)) := set_at h
theorem qset3 {w : World} {g : Nat} {v0 v1 v2 v3 v4 v5 v6 v7 v8 u : Value} {t : TypeId} (h : w.heap[g]? = some (.cells #[v0, v1, v2, v3, v4, v5, v6, v7, v8] t (0, 0))) : (w.setCell ⟨g, 3, none⟩ u).heap[g]? = some (.cells #[v0, v1, v2, u, v4, v5, v6, v7, v8] t (0, 0)) := set_at h
theorem qset4 {w : World} {g : Nat} {v0 v1 v2 v3 v4 v5 v6 v7 v8 u : Value} {t : TypeId} (h : w.heap[g]? = some (.cells #[v0, v1, v2, v3, v4, v5, v6, v7, v8] t (0, 0))) : (w.setCell ⟨g, 4, none⟩ u).heap[g]? = some (.cells #[v0, v1, v2, v3, u, v5, v6, v7, v8] t (0, 0)) := set_at h
theorem qset5 {w : World} {g : Nat} {v0 v1 v2 v3 v4 v5 v6 v7 v8 u : Value} {t : TypeId} (h : w.heap[g]? = some (.cells #[v0, v1, v2, v3, v4, v5, v6, v7, v8] t (0, 0))) : (w.setCell ⟨g, 5, none⟩ u).heap[g]? = some (.cells #[v0, v1, v2, v3, v4, u, v6, v7, v8] t (0, 0)) := set_at h
theorem qset6 {w : World} {g : Nat} {v0 v1 v2 v3 v4 v5 v6 v7 v8 u : Value} {t : TypeId} (h : w.heap[g]? = some (.cells #[v0, v1, v2, v3, v4, v5, v6, v7, v8] t (0, 0))) : (w.setCell ⟨g, 6, none⟩ u).heap[g]? = some (.cells #[v0, v1, v2, v3, v4, v5, u, v7, v8] t (0, 0)) := set_at h
theorem qset7 {w : World} {g : Nat} {v0 v1 v2 v3 v4 v5 v6 v7 v8 u : Value} {t : TypeId} (h : w.heap[g]? = some (.cells #[v0, v1, v2, v3, v4, v5, v6, v7, v8] t (0, 0))) : (w.setCell ⟨g, 7, none⟩ u).heap[g]? = some (.cells #[v0, v1, v2, v3, v4, v5, v6, u, v8] t (0, 0)) := set_at h
theorem qset8 {w : World} {g : Nat} {v0 v1 v2 v3 v4 v5 v6 v7 v8 u : Value} {t : TypeId} (h : w.heap[g]? = some (.cells #[v0, v1, v2, v3, v4, v5, v6, v7, v8] t (0, 0))) : (w.setCell ⟨g, 8, none⟩ u).heap[g]? = some (.cells #[v0, v1, v2, v3, v4, v5, v6, v7, u] t (0, 0)) := set_at h
theorem st9 {W V : World} {g : Nat} {u0 u1 u2 u3 u4 u5 u6 u7 u8 : Value} (h : Below W.heap.size W V) (hg : W.heap.size ≤ g) : Below W.heap.size W (((((((((V.setCell ⟨g, 0, none⟩ u0).setCell ⟨g, 1, none⟩ u1).setCell ⟨g, 2, none⟩ u2).setCell ⟨g, 3, none⟩ u3).setCell ⟨g, 4, none⟩ u4).setCell ⟨g, 5, none⟩ u5).setCell ⟨g, 6, none⟩ u6).setCell ⟨g, 7, none⟩ u7).setCell ⟨g, 8, none⟩ u8) := (((((((((h.setCell (p := ⟨g, 0, none⟩) hg u0).setCell (p := ⟨g, 1, none⟩) hg u1).setCell (p := ⟨g, 2, none⟩) hg u2).setCell (p := ⟨g, 3, none⟩) hg u3).setCell (p := ⟨g, 4, none⟩) hg u4).setCell (p := ⟨g, 5, none⟩) hg u5).setCell (p := ⟨g, 6, none⟩) hg u6).setCell (p := ⟨g, 7, none⟩) hg u7).setCell (p := ⟨g, 8, none⟩) hg u8)
theorem st9b {V : World} {g : Nat} {u0 u1 u2 u3 u4 u5 u6 u7 u8 v0 v1 v2 v3 v4 v5 v6 v7 v8 : Value} {t : TypeId} (h : V.heap[g]? = some (.cells #[v0, v1, v2, v3, v4, v5, v6, v7, v8] t (0, 0))) : (((((((((V.setCell ⟨g, 0, none⟩ u0).setCell ⟨g, 1, none⟩ u1).setCell ⟨g, 2, none⟩ u2).setCell ⟨g, 3, none⟩ u3).setCell ⟨g, 4, none⟩ u4).setCell ⟨g, 5, none⟩ u5).setCell ⟨g, 6, none⟩ u6).setCell ⟨g, 7, none⟩ u7).setCell ⟨g, 8, none⟩ u8).heap[g]? = some (.cells #[u0, u1, u2, u3, u4, u5, u6, u7, u8] t (0, 0)) := (qset8 (qset7 (qset6 (qset5 (qset4 (qset3 (qset2 (qset1 (qset0 h)))))))))
theorem fin9 {W V : World} {g : Nat} {u0 u1 u2 u3 u4 u5 u6 u7 u8 v0 v1 v2 v3 v4 v5 v6 v7 v8 : Value} {t : TypeId} (h : Below W.heap.size W V) (hq : V.heap[g]? = some (.cells #[v0, v1, v2, v3, v4, v5, v6, v7, v8] t (0, 0))) (hg : W.heap.size ≤ g) : ∃ g', Value.pointer (some ⟨g, 0, none⟩) = .pointer (some ⟨g', 0, none⟩) ∧ W.heap.size ≤ g' ∧ (((((((((V.setCell ⟨g, 0, none⟩ u0).setCell ⟨g, 1, none⟩ u1).setCell ⟨g, 2, none⟩ u2).setCell ⟨g, 3, none⟩ u3).setCell ⟨g, 4, none⟩ u4).setCell ⟨g, 5, none⟩ u5).setCell ⟨g, 6, none⟩ u6).setCell ⟨g, 7, none⟩ u7).setCell ⟨g, 8, none⟩ u8).heap[g']? = some (.cells #[u0, u1, u2, u3, u4, u5, u6, u7, u8] t (0, 0)) ∧ Below W.heap.size W (((((((((V.setCell ⟨g, 0, none⟩ u0).setCell ⟨g, 1, none⟩ u1).setCell ⟨g, 2, none⟩ u2).setCell ⟨g, 3, none⟩ u3).setCell ⟨g, 4, none⟩ u4).setCell ⟨g, 5, none⟩ u5).setCell ⟨g, 6, none⟩ u6).setCell ⟨g, 7, none⟩ u7).setCell ⟨g, 8, none⟩ u8) := ⟨_, rfl, hg, st9b hq, st9 h hg⟩
theorem keep6 {W V : World} {a b c d e f : Addr} {x y z x' y' z' : Value} (h0 : W.cell? a = some x) (h1 : W.cell? b = some y) (h2 : W.cell? c = some z) (h3 : W.cell? d = some x') (h4 : W.cell? e = some y') (h5 : W.cell? f = some z') (h : Below W.heap.size W V) : V.cell? a = some x ∧ V.cell? b = some y ∧ V.cell? c = some z ∧ V.cell? d = some x' ∧ V.cell? e = some y' ∧ V.cell? f = some z' ∧ Below W.heap.size W V := ⟨cell_kept h h0, cell_kept h h1, cell_kept h h2, cell_kept h h3, cell_kept h h4, cell_kept h h5, h⟩
theorem rt_blk {w : World} {g : Nat} {r : RtV} (h : w.heap[g]? = some (rtObj r)) : w.cell? ⟨g, 0, none⟩ = some (Value.int .u32 r.a) ∧ w.cell? ⟨g, 1, none⟩ = some (Value.int .i64 r.m) ∧ w.cell? ⟨g, 2, none⟩ = some (Value.int .u8 r.fr) ∧ w.cell? ⟨g, 3, none⟩ = some (Value.int .i64 r.di) ∧ w.cell? ⟨g, 4, none⟩ = some (Value.int .i64 r.me) ∧ w.cell? ⟨g, 5, none⟩ = some (Value.int .i64 r.ta) ∧ w.cell? ⟨g, 6, none⟩ = some (Value.string ⟨r.nm.toArray⟩) ∧ w.cell? ⟨g, 7, none⟩ = some (Value.int .u32 r.ho) ∧ w.cell? ⟨g, 8, none⟩ = some (Value.bool r.dc) := blk9 (t := 39) h
theorem results_t {fn : Func} {tmps : Array Value} {w : World} {g : Nat} {r : RtV} {e : Value} {t1 t3 : Nat} (hf : fn.results = #[.cell t1 39, .tmp t3]) (h1 : tmps.getD t1 undef = .pointer (some ⟨g, 0, none⟩)) (h3 : tmps.getD t3 undef = e)
    (k1 : w.heap[g]? = some (rtObj r)) :
    (results fn tmps).run Tryd.prog w = .ok (.tuple #[.agg #[.int .u32 r.a, .int .i64 r.m, .int .u8 r.fr, .int .i64 r.di, .int .i64 r.me, .int .i64 r.ta, .string ⟨r.nm.toArray⟩, .int .u32 r.ho, .bool r.dc], e]) w := by
  obtain ⟨c0, c1, c2, c3, c4, c5, c6, c7, c8⟩ := blk9 (t := 39) k1
  have h1' : tmps[t1]?.getD undef = .pointer (some ⟨g, 0, none⟩) := by simpa using h1
  have h3' : tmps[t3]?.getD undef = e := by simpa using h3
  simp [results, hf, h1', h3', go_sem, c0, c1, c2, c3, c4, c5, c6, c7, c8]
set_option maxRecDepth 100000 in
set_option maxHeartbeats 8000000 in
theorem rtParse_five (s : ByteArray) (x0 x1 x2 x3 x4 : ByteArray) (R : List ByteArray) (w : World) (hE : Env w) (hlim : s.size < 4294967281) (hP : pieces 32 s.data.toList = x0.data.toList :: x1.data.toList :: x2.data.toList :: x3.data.toList :: x4.data.toList :: R.map (·.data.toList)) (hS : Lib.splitB ⟨#[32]⟩ 0 (Lib.countB s ⟨#[32]⟩) s = x0 :: x1 :: x2 :: x3 :: x4 :: R) (N : Nat) (hN : Lib.countB s ⟨#[32]⟩ + 1 = N) (hNR : N = R.length + 5) (hl : ∀ x ∈ x0 :: x1 :: x2 :: x3 :: x4 :: R, x.size < 4294967281) (hrn : N ≤ 9223372036854775807) :
    Calls Tryd.prog 11 #[.string s] w fun e w' => e = .returned (.tuple #[.agg #[.int .u32 (roV s.data.toList).a, .int .i64 (roV s.data.toList).m, .int .u8 (roV s.data.toList).fr, .int .i64 (roV s.data.toList).di, .int .i64 (roV s.data.toList).me, .int .i64 (roV s.data.toList).ta, .string ⟨(roV s.data.toList).nm.toArray⟩, .int .u32 (roV s.data.toList).ho, .bool (roV s.data.toList).dc], .int .i64 (roE s.data.toList)]) ∧ Below w.heap.size w w' := by
  have hkz := heap_alloc_new w (rtObj default)
  have hb0 := below1 w (rtObj default)
  have hE0 := hE.below hb0
  obtain ⟨m, hm⟩ := hE0.len
  have hSp := Tryd.strings_Split s ⟨#[32]⟩ m (w.alloc (rtObj default)) (by omega) hm (by decide)
  rw [hS, hN] at hSp
  have HSp := Lib.hid hSp
  clear hSp hS hN hm
  have l0 := hl x0 (by simp)
  have l2 := hl x2 (by simp)
  have l3 := hl x3 (by simp)
  have l4 := hl x4 (by simp)
  have HP := Lib.hid hP
  have HL := Lib.hid hl
  clear hP hl
  have hge : ¬ (N : Int) < 5 := by omega
  have hba : 0 < N := by omega
  have hia : (0 : Int) < (N : Int) := by omega
  have hbb : 1 < N := by omega
  have hib : (1 : Int) < (N : Int) := by omega
  have hbc : 2 < N := by omega
  have hic : (2 : Int) < (N : Int) := by omega
  have hbd : 3 < N := by omega
  have hid : (3 : Int) < (N : Int) := by omega
  have hbe : 4 < N := by omega
  have hie : (4 : Int) < (N : Int) := by omega
  have HNR := Lib.hid hNR
  clear hNR
  go_enter Tryd.func11, Tryd.ntmps11
  go_wp2_with fail
  refine HSp.out.mono ?_
  rintro e w1 ⟨rfl, rfl⟩
  have hk1 := (Below.heap_alloc (w.alloc (rtObj default)) (.cells ((x0 :: x1 :: x2 :: x3 :: x4 :: R).map Value.string).toArray 9) _ (lt_of_block hkz)).trans hkz
  have hkL := heap_alloc_new (w.alloc (rtObj default)) (.cells ((x0 :: x1 :: x2 :: x3 :: x4 :: R).map Value.string).toArray 9)
  have hb1 := hb0.alloc hb0.size (.cells ((x0 :: x1 :: x2 :: x3 :: x4 :: R).map Value.string).toArray 9)
  have hE1 := hE.below hb1
  have hgL : w.heap.size ≠ (w.alloc (rtObj default)).heap.size := by simp
  clear HSp hE0 hkz hb0
  generalize (w.alloc (rtObj default)).heap.size = gL at *
  generalize (w.alloc (rtObj default)).alloc (.cells ((x0 :: x1 :: x2 :: x3 :: x4 :: R).map Value.string).toArray 9) = W at *
  have s0 := cells_str (k := 0) hkL rfl
  have HK1 := Lib.hid hk1
  have HKL := Lib.hid hkL
  clear hk1 hkL
  have K0 := Lib.hid (parsePrefix_any x0 W hE1 l0)
  go_wp2_with fail
  refine K0.out.mono ?_
  rintro e w2 ⟨rfl, hb⟩
  have hk2 := blk_below hb HK1.out
  have hkL2 := blk_below hb HKL.out
  have hb2 := hb1.trans (hb.mono hb1.size)
  have hkp := heap_alloc_new w2 (.cells #[.int .u32 (ppA x0.data.toList), .int .i64 (ppN x0.data.toList)] 37)
  have hk3 := blk_below (below1 w2 (.cells #[.int .u32 (ppA x0.data.toList), .int .i64 (ppN x0.data.toList)] 37)) hk2
  have hkL3 := blk_below (below1 w2 (.cells #[.int .u32 (ppA x0.data.toList), .int .i64 (ppN x0.data.toList)] 37)) hkL2
  have hb3 := hb2.alloc hb2.size (.cells #[.int .u32 (ppA x0.data.toList), .int .i64 (ppN x0.data.toList)] 37)
  have hE3 := hE.below hb3
  clear hb hk2 hkL2 hb2 HK1 HKL K0 hb1 hE1 s0
  go_upto_region 5 with fail
  generalize w2.alloc (.cells #[.int .u32 (ppA x0.data.toList), .int .i64 (ppN x0.data.toList)] 37) = W3 at *
  generalize w2.heap.size = gp at *
  have s1 := cells_str (k := 1) hkL3 rfl
  have s2 := cells_str (k := 2) hkL3 rfl
  have s3 := cells_str (k := 3) hkL3 rfl
  have s4 := cells_str (k := 4) hkL3 rfl
  obtain ⟨p0, p1, _, _⟩ := two_cells hkp
  have HK3 := Lib.hid hk3
  have HKL3 := Lib.hid hkL3
  clear hk3 hkL3 hkp
  have KF := Lib.hid (show ∀ V : World, Below W3.heap.size W3 V → Calls Tryd.prog 22 #[] V fun e V' => ∃ g, e = .returned (.slice (some ⟨g, 0, none⟩) 9 9) ∧ V'.heap[g]? = some (.cells fromsBlk 9 (0, 0)) ∧ Below W3.heap.size W3 V' ∧ Below V.heap.size V V' from fun V h => (froms_any V).mono fun e V' ⟨he, hv⟩ => ⟨_, he, by rw [hv]; exact heap_alloc_new V _, by rw [hv]; exact below_al h, by rw [hv]; exact below1 V _⟩)
  have KN := Lib.hid (show ∀ x : ByteArray, x.size < 4294967281 → ∀ V : World, Below W3.heap.size W3 V → Calls Tryd.prog 32 #[.string x] V fun e V' => e = .returned (.int .i64 (num31 x.data.toList)) ∧ Below W3.heap.size W3 V' ∧ Below V.heap.size V V' from fun x hx V h => (numR_any x hx V (hE3.below h)).mono fun e V' ⟨he, hb⟩ => ⟨he, below_call h hb, hb⟩)
  have ifr := idx_range x1
  have mfr := Lib.hid (max_from x1)
  have KI := Lib.hid (fun (V : World) (g : Nat) (h : V.heap[g]? = some (.cells fromsBlk 9 (0, 0))) => (index_from x1 V g h).mono (R' := fun e V' => e = .returned (.int .i64 (Lib.idxOfS fromsB x1)) ∧ Below V.heap.size V V') fun e V' hh => ⟨hh.1, by rw [hh.2]; exact Below.refl _ _⟩)
  generalize Lib.idxOfS fromsB x1 = ix at *
  go_cut [7] (fun sr wx => ∃ g : Nat, sr = .pointer (some ⟨g, 0, none⟩) ∧ W3.heap.size ≤ g ∧ wx.heap[g]? = some (.cells #[.int .u32 (ppA x0.data.toList), .int .i64 (ppN x0.data.toList), .int .u8 (max 0 ix), .int .i64 (num31 x2.data.toList), .int .i64 (num31 x3.data.toList), .int .i64 (num31 x4.data.toList), .string ⟨#[]⟩, .int .u32 0, .bool false] 39 (0, 0)) ∧ Below W3.heap.size W3 wx)
  case first =>
    clear HK3 HKL3 HP HL hb3 hE3 HNR
    have F1 := cell_regrown s1
    have F2 := cell_regrown s2
    have F3 := cell_regrown s3
    have F4 := cell_regrown s4
    have F5 := cell_regrown p0
    have F6 := cell_regrown p1
    refine wp_region_tree (plains (.fork 1 (.fork 5 (plains (.fork 11 (.fork 15 (.fork 19 (plains (.bar 21 (.bar 22 .done)) [20]) 21 (.bar 19 (plains (.bar 22 .done) [20]))) 21 (.bar 15 (.bar 19 (plains (.bar 22 .done) [20])))) 21 (.bar 11 (.bar 15 (.bar 19 (plains (.bar 22 .done) [20]))))) [6, 7]) 21 (.bar 5 (plains (.bar 11 (.bar 15 (.bar 19 (plains (.bar 22 .done) [20])))) [6, 7]))) 21 (.bar 1 (.bar 5 (plains (.bar 11 (.bar 15 (.bar 19 (plains (.bar 22 .done) [20])))) [6, 7])))) [0, 2, 3, 4, 8, 9, 10, 12, 13, 14, 16, 17, 18]) (by kernel_rfl) (by kernel_rfl) ?_
    have hv0 := below_drawn W3
    generalize { W3 with drawn := W3.drawn + 1 } = V0 at *
    refine tree_take [0, 2, 3, 4, 8, 9, 10, 12, 13, 14, 16, 17, 18] [_, _, _, _, _, _, _, _, _, _, _, _, _] rfl rfl ?_
    simp only [List.getElem_toArray, List.getElem_cons_zero, List.getElem_cons_succ]
    repeat (go_big_quiet_step (fail))
    refine wpQuiet_nil ?_
    refine tree_fork ?_ ?_
    · refine step_same rfl (by rfl) ?_
      simp only [List.getElem_toArray, List.getElem_cons_zero, List.getElem_cons_succ]
      go_simp
      refine (KF.out V0 hv0).mono ?_
      rintro e V1 ⟨gf, rfl, hF1, _, hb1⟩
      have hv1 := below_call hv0 hb1
      refine ⟨regrown_of_below hv1, ?_⟩
      refine tree_fork ?_ ?_
      · refine step_same rfl (by rfl) ?_
        simp only [List.getElem_toArray, List.getElem_cons_zero, List.getElem_cons_succ]
        go_simp
        refine (KI.out V1 gf hF1).mono ?_
        rintro e V2 ⟨rfl, hb2⟩
        have hv2 := below_call hv1 hb2
        have B_F2 := blk_below hb2 hF1
        refine ⟨regrown_of_below hv2, ?_⟩
        refine tree_take [6, 7] [_, _] rfl rfl ?_
        simp only [List.getElem_toArray, List.getElem_cons_zero, List.getElem_cons_succ]
        repeat (go_big_quiet_step (fail))
        refine wpQuiet_nil ?_
        refine tree_fork ?_ ?_
        · refine step_same rfl (by rfl) ?_
          simp only [List.getElem_toArray, List.getElem_cons_zero, List.getElem_cons_succ]
          go_simp
          refine (KN.out x2 (by with_reducible assumption) V2 hv2).mono ?_
          rintro e V3 ⟨rfl, _, hb3⟩
          have hv3 := below_call hv2 hb3
          have B_F3 := blk_below hb3 B_F2
          refine ⟨regrown_of_below hv3, ?_⟩
          refine tree_fork ?_ ?_
          · refine step_same rfl (by rfl) ?_
            simp only [List.getElem_toArray, List.getElem_cons_zero, List.getElem_cons_succ]
            go_simp
            refine (KN.out x3 (by with_reducible assumption) V3 hv3).mono ?_
            rintro e V4 ⟨rfl, _, hb4⟩
            have hv4 := below_call hv3 hb4
            have B_F4 := blk_below hb4 B_F3
            refine ⟨regrown_of_below hv4, ?_⟩
            refine tree_fork ?_ ?_
            · refine step_same rfl (by rfl) ?_
              simp only [List.getElem_toArray, List.getElem_cons_zero, List.getElem_cons_succ]
              go_simp
              refine (KN.out x4 (by with_reducible assumption) V4 hv4).mono ?_
              rintro e V5 ⟨rfl, _, hb5⟩
              have hv5 := below_call hv4 hb5
              have B_F5 := blk_below hb5 B_F4
              refine ⟨regrown_of_below hv5, ?_⟩
              refine tree_take [20] [_] rfl rfl ?_
              simp only [List.getElem_toArray, List.getElem_cons_zero, List.getElem_cons_succ]
              repeat (go_big_quiet_step (fail))
              refine wpQuiet_nil ?_
              refine tree_bar ?_
              refine step_same rfl (by rfl) ?_
              simp only [List.getElem_toArray, List.getElem_cons_zero, List.getElem_cons_succ]
              go_simp
              have hA6 := heap_alloc_new V5 (.cells #[.int .u32 0, .int .i64 0, .int .u8 0, .int .i64 0, .int .i64 0, .int .i64 0, .string ⟨#[]⟩, .int .u32 0, .bool false] 39)
              have hb6 := below1 V5 (.cells #[.int .u32 0, .int .i64 0, .int .u8 0, .int .i64 0, .int .i64 0, .int .i64 0, .string ⟨#[]⟩, .int .u32 0, .bool false] 39)
              have hv6 := below_call hv5 hb6
              have hg6 : W3.heap.size ≤ V5.heap.size := hv5.size
              have B_F6 := blk_below hb6 B_F5
              refine ⟨regrown_of_below hv6, ?_⟩
              generalize V5.alloc (.cells #[.int .u32 0, .int .i64 0, .int .u8 0, .int .i64 0, .int .i64 0, .int .i64 0, .string ⟨#[]⟩, .int .u32 0, .bool false] 39) = V6 at *
              generalize V5.heap.size = gA at *
              obtain ⟨n0, n1, n2, n3, n4, n5, n6, n7, n8⟩ := blk9 hA6
              have m0 := frozen_row hA6 0
              have m1 := frozen_row hA6 1
              have m2 := frozen_row hA6 2
              have m3 := frozen_row hA6 3
              have m4 := frozen_row hA6 4
              have m5 := frozen_row hA6 5
              have m6 := frozen_row hA6 6
              have m7 := frozen_row hA6 7
              have m8 := frozen_row hA6 8
              refine tree_bar ?_
              refine step_same rfl (by rfl) ?_
              simp only [List.getElem_toArray, List.getElem_cons_zero, List.getElem_cons_succ]
              go_simp
              refine ⟨regrown_of_below (st9 hv6 hg6), ?_⟩
              refine tree_end ?_
              go_wp2_with fail
              go_meet
              exact fin9 hv6 hA6 hg6
            · refine step_same rfl (by rfl) ?_
              simp only [List.getElem_toArray, List.getElem_cons_zero, List.getElem_cons_succ]
              go_simp
              have hA7 := heap_alloc_new V4 (.cells #[.int .u32 0, .int .i64 0, .int .u8 0, .int .i64 0, .int .i64 0, .int .i64 0, .string ⟨#[]⟩, .int .u32 0, .bool false] 39)
              have hb7 := below1 V4 (.cells #[.int .u32 0, .int .i64 0, .int .u8 0, .int .i64 0, .int .i64 0, .int .i64 0, .string ⟨#[]⟩, .int .u32 0, .bool false] 39)
              have hv7 := below_call hv4 hb7
              have hg7 : W3.heap.size ≤ V4.heap.size := hv4.size
              have B_F7 := blk_below hb7 B_F4
              refine ⟨regrown_of_below hv7, ?_⟩
              generalize V4.alloc (.cells #[.int .u32 0, .int .i64 0, .int .u8 0, .int .i64 0, .int .i64 0, .int .i64 0, .string ⟨#[]⟩, .int .u32 0, .bool false] 39) = V7 at *
              generalize V4.heap.size = gA at *
              refine tree_bar ?_
              refine step_same rfl (by rfl) ?_
              simp only [List.getElem_toArray, List.getElem_cons_zero, List.getElem_cons_succ]
              go_simp
              refine (KN.out x4 (by with_reducible assumption) V7 hv7).mono ?_
              rintro e V8 ⟨rfl, _, hb8⟩
              have hv8 := below_call hv7 hb8
              have hA8 := blk_below hb8 hA7
              have B_F8 := blk_below hb8 B_F7
              refine ⟨regrown_of_below hv8, ?_⟩
              refine tree_take [20] [_] rfl rfl ?_
              simp only [List.getElem_toArray, List.getElem_cons_zero, List.getElem_cons_succ]
              repeat (go_big_quiet_step (fail))
              refine wpQuiet_nil ?_
              obtain ⟨n0, n1, n2, n3, n4, n5, n6, n7, n8⟩ := blk9 hA8
              have m0 := frozen_row hA8 0
              have m1 := frozen_row hA8 1
              have m2 := frozen_row hA8 2
              have m3 := frozen_row hA8 3
              have m4 := frozen_row hA8 4
              have m5 := frozen_row hA8 5
              have m6 := frozen_row hA8 6
              have m7 := frozen_row hA8 7
              have m8 := frozen_row hA8 8
              refine tree_bar ?_
              refine step_same rfl (by rfl) ?_
              simp only [List.getElem_toArray, List.getElem_cons_zero, List.getElem_cons_succ]
              go_simp
              refine ⟨regrown_of_below (st9 hv8 hg7), ?_⟩
              refine tree_end ?_
              go_wp2_with fail
              go_meet
              exact fin9 hv8 hA8 hg7
          · refine step_same rfl (by rfl) ?_
            simp only [List.getElem_toArray, List.getElem_cons_zero, List.getElem_cons_succ]
            go_simp
            have hA9 := heap_alloc_new V3 (.cells #[.int .u32 0, .int .i64 0, .int .u8 0, .int .i64 0, .int .i64 0, .int .i64 0, .string ⟨#[]⟩, .int .u32 0, .bool false] 39)
            have hb9 := below1 V3 (.cells #[.int .u32 0, .int .i64 0, .int .u8 0, .int .i64 0, .int .i64 0, .int .i64 0, .string ⟨#[]⟩, .int .u32 0, .bool false] 39)
            have hv9 := below_call hv3 hb9
            have hg9 : W3.heap.size ≤ V3.heap.size := hv3.size
            have B_F9 := blk_below hb9 B_F3
            refine ⟨regrown_of_below hv9, ?_⟩
            generalize V3.alloc (.cells #[.int .u32 0, .int .i64 0, .int .u8 0, .int .i64 0, .int .i64 0, .int .i64 0, .string ⟨#[]⟩, .int .u32 0, .bool false] 39) = V9 at *
            generalize V3.heap.size = gA at *
            refine tree_bar ?_
            refine step_same rfl (by rfl) ?_
            simp only [List.getElem_toArray, List.getElem_cons_zero, List.getElem_cons_succ]
            go_simp
            refine (KN.out x3 (by with_reducible assumption) V9 hv9).mono ?_
            rintro e V10 ⟨rfl, _, hb10⟩
            have hv10 := below_call hv9 hb10
            have hA10 := blk_below hb10 hA9
            have B_F10 := blk_below hb10 B_F9
            refine ⟨regrown_of_below hv10, ?_⟩
            refine tree_bar ?_
            refine step_same rfl (by rfl) ?_
            simp only [List.getElem_toArray, List.getElem_cons_zero, List.getElem_cons_succ]
            go_simp
            refine (KN.out x4 (by with_reducible assumption) V10 hv10).mono ?_
            rintro e V11 ⟨rfl, _, hb11⟩
            have hv11 := below_call hv10 hb11
            have hA11 := blk_below hb11 hA10
            have B_F11 := blk_below hb11 B_F10
            refine ⟨regrown_of_below hv11, ?_⟩
            refine tree_take [20] [_] rfl rfl ?_
            simp only [List.getElem_toArray, List.getElem_cons_zero, List.getElem_cons_succ]
            repeat (go_big_quiet_step (fail))
            refine wpQuiet_nil ?_
            obtain ⟨n0, n1, n2, n3, n4, n5, n6, n7, n8⟩ := blk9 hA11
            have m0 := frozen_row hA11 0
            have m1 := frozen_row hA11 1
            have m2 := frozen_row hA11 2
            have m3 := frozen_row hA11 3
            have m4 := frozen_row hA11 4
            have m5 := frozen_row hA11 5
            have m6 := frozen_row hA11 6
            have m7 := frozen_row hA11 7
            have m8 := frozen_row hA11 8
            refine tree_bar ?_
            refine step_same rfl (by rfl) ?_
            simp only [List.getElem_toArray, List.getElem_cons_zero, List.getElem_cons_succ]
            go_simp
            refine ⟨regrown_of_below (st9 hv11 hg9), ?_⟩
            refine tree_end ?_
            go_wp2_with fail
            go_meet
            exact fin9 hv11 hA11 hg9
        · refine step_same rfl (by rfl) ?_
          simp only [List.getElem_toArray, List.getElem_cons_zero, List.getElem_cons_succ]
          go_simp
          have hA12 := heap_alloc_new V2 (.cells #[.int .u32 0, .int .i64 0, .int .u8 0, .int .i64 0, .int .i64 0, .int .i64 0, .string ⟨#[]⟩, .int .u32 0, .bool false] 39)
          have hb12 := below1 V2 (.cells #[.int .u32 0, .int .i64 0, .int .u8 0, .int .i64 0, .int .i64 0, .int .i64 0, .string ⟨#[]⟩, .int .u32 0, .bool false] 39)
          have hv12 := below_call hv2 hb12
          have hg12 : W3.heap.size ≤ V2.heap.size := hv2.size
          have B_F12 := blk_below hb12 B_F2
          refine ⟨regrown_of_below hv12, ?_⟩
          generalize V2.alloc (.cells #[.int .u32 0, .int .i64 0, .int .u8 0, .int .i64 0, .int .i64 0, .int .i64 0, .string ⟨#[]⟩, .int .u32 0, .bool false] 39) = V12 at *
          generalize V2.heap.size = gA at *
          refine tree_bar ?_
          refine step_same rfl (by rfl) ?_
          simp only [List.getElem_toArray, List.getElem_cons_zero, List.getElem_cons_succ]
          go_simp
          refine (KN.out x2 (by with_reducible assumption) V12 hv12).mono ?_
          rintro e V13 ⟨rfl, _, hb13⟩
          have hv13 := below_call hv12 hb13
          have hA13 := blk_below hb13 hA12
          have B_F13 := blk_below hb13 B_F12
          refine ⟨regrown_of_below hv13, ?_⟩
          refine tree_bar ?_
          refine step_same rfl (by rfl) ?_
          simp only [List.getElem_toArray, List.getElem_cons_zero, List.getElem_cons_succ]
          go_simp
          refine (KN.out x3 (by with_reducible assumption) V13 hv13).mono ?_
          rintro e V14 ⟨rfl, _, hb14⟩
          have hv14 := below_call hv13 hb14
          have hA14 := blk_below hb14 hA13
          have B_F14 := blk_below hb14 B_F13
          refine ⟨regrown_of_below hv14, ?_⟩
          refine tree_bar ?_
          refine step_same rfl (by rfl) ?_
          simp only [List.getElem_toArray, List.getElem_cons_zero, List.getElem_cons_succ]
          go_simp
          refine (KN.out x4 (by with_reducible assumption) V14 hv14).mono ?_
          rintro e V15 ⟨rfl, _, hb15⟩
          have hv15 := below_call hv14 hb15
          have hA15 := blk_below hb15 hA14
          have B_F15 := blk_below hb15 B_F14
          refine ⟨regrown_of_below hv15, ?_⟩
          refine tree_take [20] [_] rfl rfl ?_
          simp only [List.getElem_toArray, List.getElem_cons_zero, List.getElem_cons_succ]
          repeat (go_big_quiet_step (fail))
          refine wpQuiet_nil ?_
          obtain ⟨n0, n1, n2, n3, n4, n5, n6, n7, n8⟩ := blk9 hA15
          have m0 := frozen_row hA15 0
          have m1 := frozen_row hA15 1
          have m2 := frozen_row hA15 2
          have m3 := frozen_row hA15 3
          have m4 := frozen_row hA15 4
          have m5 := frozen_row hA15 5
          have m6 := frozen_row hA15 6
          have m7 := frozen_row hA15 7
          have m8 := frozen_row hA15 8
          refine tree_bar ?_
          refine step_same rfl (by rfl) ?_
          simp only [List.getElem_toArray, List.getElem_cons_zero, List.getElem_cons_succ]
          go_simp
          refine ⟨regrown_of_below (st9 hv15 hg12), ?_⟩
          refine tree_end ?_
          go_wp2_with fail
          go_meet
          exact fin9 hv15 hA15 hg12
      · refine step_same rfl (by rfl) ?_
        simp only [List.getElem_toArray, List.getElem_cons_zero, List.getElem_cons_succ]
        go_simp
        have hA16 := heap_alloc_new V1 (.cells #[.int .u32 0, .int .i64 0, .int .u8 0, .int .i64 0, .int .i64 0, .int .i64 0, .string ⟨#[]⟩, .int .u32 0, .bool false] 39)
        have hb16 := below1 V1 (.cells #[.int .u32 0, .int .i64 0, .int .u8 0, .int .i64 0, .int .i64 0, .int .i64 0, .string ⟨#[]⟩, .int .u32 0, .bool false] 39)
        have hv16 := below_call hv1 hb16
        have hg16 : W3.heap.size ≤ V1.heap.size := hv1.size
        have B_F16 := blk_below hb16 hF1
        refine ⟨regrown_of_below hv16, ?_⟩
        generalize V1.alloc (.cells #[.int .u32 0, .int .i64 0, .int .u8 0, .int .i64 0, .int .i64 0, .int .i64 0, .string ⟨#[]⟩, .int .u32 0, .bool false] 39) = V16 at *
        generalize V1.heap.size = gA at *
        refine tree_bar ?_
        refine step_same rfl (by rfl) ?_
        simp only [List.getElem_toArray, List.getElem_cons_zero, List.getElem_cons_succ]
        go_simp
        refine (KI.out V16 gf B_F16).mono ?_
        rintro e V17 ⟨rfl, hb17⟩
        have hv17 := below_call hv16 hb17
        have hA17 := blk_below hb17 hA16
        have B_F17 := blk_below hb17 B_F16
        refine ⟨regrown_of_below hv17, ?_⟩
        refine tree_take [6, 7] [_, _] rfl rfl ?_
        simp only [List.getElem_toArray, List.getElem_cons_zero, List.getElem_cons_succ]
        repeat (go_big_quiet_step (fail))
        refine wpQuiet_nil ?_
        refine tree_bar ?_
        refine step_same rfl (by rfl) ?_
        simp only [List.getElem_toArray, List.getElem_cons_zero, List.getElem_cons_succ]
        go_simp
        refine (KN.out x2 (by with_reducible assumption) V17 hv17).mono ?_
        rintro e V18 ⟨rfl, _, hb18⟩
        have hv18 := below_call hv17 hb18
        have hA18 := blk_below hb18 hA17
        have B_F18 := blk_below hb18 B_F17
        refine ⟨regrown_of_below hv18, ?_⟩
        refine tree_bar ?_
        refine step_same rfl (by rfl) ?_
        simp only [List.getElem_toArray, List.getElem_cons_zero, List.getElem_cons_succ]
        go_simp
        refine (KN.out x3 (by with_reducible assumption) V18 hv18).mono ?_
        rintro e V19 ⟨rfl, _, hb19⟩
        have hv19 := below_call hv18 hb19
        have hA19 := blk_below hb19 hA18
        have B_F19 := blk_below hb19 B_F18
        refine ⟨regrown_of_below hv19, ?_⟩
        refine tree_bar ?_
        refine step_same rfl (by rfl) ?_
        simp only [List.getElem_toArray, List.getElem_cons_zero, List.getElem_cons_succ]
        go_simp
        refine (KN.out x4 (by with_reducible assumption) V19 hv19).mono ?_
        rintro e V20 ⟨rfl, _, hb20⟩
        have hv20 := below_call hv19 hb20
        have hA20 := blk_below hb20 hA19
        have B_F20 := blk_below hb20 B_F19
        refine ⟨regrown_of_below hv20, ?_⟩
        refine tree_take [20] [_] rfl rfl ?_
        simp only [List.getElem_toArray, List.getElem_cons_zero, List.getElem_cons_succ]
        repeat (go_big_quiet_step (fail))
        refine wpQuiet_nil ?_
        obtain ⟨n0, n1, n2, n3, n4, n5, n6, n7, n8⟩ := blk9 hA20
        have m0 := frozen_row hA20 0
        have m1 := frozen_row hA20 1
        have m2 := frozen_row hA20 2
        have m3 := frozen_row hA20 3
        have m4 := frozen_row hA20 4
        have m5 := frozen_row hA20 5
        have m6 := frozen_row hA20 6
        have m7 := frozen_row hA20 7
        have m8 := frozen_row hA20 8
        refine tree_bar ?_
        refine step_same rfl (by rfl) ?_
        simp only [List.getElem_toArray, List.getElem_cons_zero, List.getElem_cons_succ]
        go_simp
        refine ⟨regrown_of_below (st9 hv20 hg16), ?_⟩
        refine tree_end ?_
        go_wp2_with fail
        go_meet
        exact fin9 hv20 hA20 hg16
    · refine step_same rfl (by rfl) ?_
      simp only [List.getElem_toArray, List.getElem_cons_zero, List.getElem_cons_succ]
      go_simp
      have hA21 := heap_alloc_new V0 (.cells #[.int .u32 0, .int .i64 0, .int .u8 0, .int .i64 0, .int .i64 0, .int .i64 0, .string ⟨#[]⟩, .int .u32 0, .bool false] 39)
      have hb21 := below1 V0 (.cells #[.int .u32 0, .int .i64 0, .int .u8 0, .int .i64 0, .int .i64 0, .int .i64 0, .string ⟨#[]⟩, .int .u32 0, .bool false] 39)
      have hv21 := below_call hv0 hb21
      have hg21 : W3.heap.size ≤ V0.heap.size := hv0.size
      refine ⟨regrown_of_below hv21, ?_⟩
      generalize V0.alloc (.cells #[.int .u32 0, .int .i64 0, .int .u8 0, .int .i64 0, .int .i64 0, .int .i64 0, .string ⟨#[]⟩, .int .u32 0, .bool false] 39) = V21 at *
      generalize V0.heap.size = gA at *
      refine tree_bar ?_
      refine step_same rfl (by rfl) ?_
      simp only [List.getElem_toArray, List.getElem_cons_zero, List.getElem_cons_succ]
      go_simp
      refine (KF.out V21 hv21).mono ?_
      rintro e V22 ⟨gf, rfl, hF22, _, hb22⟩
      have hv22 := below_call hv21 hb22
      have hA22 := blk_below hb22 hA21
      refine ⟨regrown_of_below hv22, ?_⟩
      refine tree_bar ?_
      refine step_same rfl (by rfl) ?_
      simp only [List.getElem_toArray, List.getElem_cons_zero, List.getElem_cons_succ]
      go_simp
      refine (KI.out V22 gf hF22).mono ?_
      rintro e V23 ⟨rfl, hb23⟩
      have hv23 := below_call hv22 hb23
      have hA23 := blk_below hb23 hA22
      have B_F23 := blk_below hb23 hF22
      refine ⟨regrown_of_below hv23, ?_⟩
      refine tree_take [6, 7] [_, _] rfl rfl ?_
      simp only [List.getElem_toArray, List.getElem_cons_zero, List.getElem_cons_succ]
      repeat (go_big_quiet_step (fail))
      refine wpQuiet_nil ?_
      refine tree_bar ?_
      refine step_same rfl (by rfl) ?_
      simp only [List.getElem_toArray, List.getElem_cons_zero, List.getElem_cons_succ]
      go_simp
      refine (KN.out x2 (by with_reducible assumption) V23 hv23).mono ?_
      rintro e V24 ⟨rfl, _, hb24⟩
      have hv24 := below_call hv23 hb24
      have hA24 := blk_below hb24 hA23
      have B_F24 := blk_below hb24 B_F23
      refine ⟨regrown_of_below hv24, ?_⟩
      refine tree_bar ?_
      refine step_same rfl (by rfl) ?_
      simp only [List.getElem_toArray, List.getElem_cons_zero, List.getElem_cons_succ]
      go_simp
      refine (KN.out x3 (by with_reducible assumption) V24 hv24).mono ?_
      rintro e V25 ⟨rfl, _, hb25⟩
      have hv25 := below_call hv24 hb25
      have hA25 := blk_below hb25 hA24
      have B_F25 := blk_below hb25 B_F24
      refine ⟨regrown_of_below hv25, ?_⟩
      refine tree_bar ?_
      refine step_same rfl (by rfl) ?_
      simp only [List.getElem_toArray, List.getElem_cons_zero, List.getElem_cons_succ]
      go_simp
      refine (KN.out x4 (by with_reducible assumption) V25 hv25).mono ?_
      rintro e V26 ⟨rfl, _, hb26⟩
      have hv26 := below_call hv25 hb26
      have hA26 := blk_below hb26 hA25
      have B_F26 := blk_below hb26 B_F25
      refine ⟨regrown_of_below hv26, ?_⟩
      refine tree_take [20] [_] rfl rfl ?_
      simp only [List.getElem_toArray, List.getElem_cons_zero, List.getElem_cons_succ]
      repeat (go_big_quiet_step (fail))
      refine wpQuiet_nil ?_
      obtain ⟨n0, n1, n2, n3, n4, n5, n6, n7, n8⟩ := blk9 hA26
      have m0 := frozen_row hA26 0
      have m1 := frozen_row hA26 1
      have m2 := frozen_row hA26 2
      have m3 := frozen_row hA26 3
      have m4 := frozen_row hA26 4
      have m5 := frozen_row hA26 5
      have m6 := frozen_row hA26 6
      have m7 := frozen_row hA26 7
      have m8 := frozen_row hA26 8
      refine tree_bar ?_
      refine step_same rfl (by rfl) ?_
      simp only [List.getElem_toArray, List.getElem_cons_zero, List.getElem_cons_succ]
      go_simp
      refine ⟨regrown_of_below (st9 hv26 hg21), ?_⟩
      refine tree_end ?_
      go_wp2_with fail
      go_meet
      exact fin9 hv26 hA26 hg21
  case rest =>
    obtain ⟨g, hs7, hgW, hkr, hbx⟩ := hcut
    subst hs7
    clear KF KN KI s1 s2 s3 s4 p0 p1
    have hfr : max 0 ix = fromI x1.data.toList := mfr.out
    rw [hfr] at hkr
    have hcl : ∀ (i : Nat) (y : ByteArray), R[i]? = some y → W3.cell? ⟨gL, 5 + i, none⟩ = some (.string y) := fun i y hy => cells_str (k := 5 + i) HKL3.out (by rw [Nat.add_comm]; exact hy)
    have HCL := Lib.hid hcl
    have HKR := Lib.hid hkr
    have e5 : N - 5 = R.length := by have := HNR.out; omega
    have h5 : 5 ≤ N := by omega
    have h5i : (5 : Int) ≤ (N : Int) := by omega
    clear hcl hkr ifr mfr
    have hAd := Lib.hid (show ∀ x : ByteArray, x.size < 4294967281 → ∀ V : World, Below W3.heap.size W3 V → Calls Tryd.prog 33 #[.string x] V _ from fun x hx V h => addrParse_any x V (hE3.below h) hx)
    go_upto_region 7 with fail
    generalize hA5 : (if N = 5 then some (⟨gL, 0, none⟩ : Addr) else some ⟨gL, 5, none⟩) = A5
    have hA : 0 < R.length → A5 = some ⟨gL, 5, none⟩ := fun h => by rw [← hA5, if_neg (by omega)]
    clear hA5 e5
    have hn63 : R.length ≤ 9223372036854775807 := by have := HNR.out; omega
    generalize hn : R.length = n at *
    have HN2 := Lib.hid hn.symm
    clear hn
    have HBX := Lib.hid hbx
    clear hbx
    go_cut [54] (fun sb wx => sb = .bool (begB viaW R) ∧ Hid (wx.heap[g]? = some (.cells #[.int .u32 (ppA x0.data.toList), .int .i64 (ppN x0.data.toList), .int .u8 (fromI x1.data.toList), .int .i64 (num31 x2.data.toList), .int .i64 (num31 x3.data.toList), .int .i64 (num31 x4.data.toList), .string ⟨#[]⟩, .int .u32 0, .bool false] 39 (0, 0)) ∧ Below W3.heap.size W3 wx))
    case first =>
      rcases R with _ | ⟨v, _ | ⟨x, t⟩⟩
      · have hz : n = 0 := HN2.out
        have hI : ¬ (n : Int) > 1 := by omega
        clear hz
        go_wp2_with fail
        go_meet
        exact ⟨rfl, HKR.out, HBX.out⟩
      · have hz : n = 1 := HN2.out
        have hI : ¬ (n : Int) > 1 := by omega
        clear hz
        go_wp2_with fail
        go_meet
        exact ⟨rfl, HKR.out, HBX.out⟩
      · have hz : n = t.length + 2 := HN2.out
        obtain rfl := hA (by omega)
        have hI : (n : Int) > 1 := by omega
        have hi0 : (0 : Int) < (n : Int) := by omega
        have hj0 : 0 < n := by omega
        have f0 : wc.cell? ⟨gL, 5, none⟩ = some (.string v) := cell_kept HBX.out (HCL.out 0 v rfl)
        have hv1 : (v.toList == [118, 105, 97]) = begB viaW (v :: x :: t) := by
          rw [list_of, Bool.eq_iff_iff]
          simp only [begB, beq_iff_eq, decide_eq_true_eq]
          exact Iff.rfl
        clear hz
        go_wp2_with fail
        go_meet
        exact ⟨rfl, HKR.out, HBX.out⟩
    case rest =>
      obtain ⟨hs54, hh1⟩ := hcut
      subst hs54
      rename World => wa
      have HH1 := Lib.hid hh1
      clear hh1
      obtain ⟨bv, hbv⟩ : ∃ b, begB viaW R = b := ⟨_, rfl⟩
      rw [hbv]
      go_upto_if 54 with fail
      go_cut [4] (fun s4 wx => ∃ (A : Option Addr) (o c : Nat) (R2 : List ByteArray), s4 = .slice A R2.length c ∧ Hid ((0 < R2.length → A = some ⟨gL, o, none⟩) ∧ R2.length ≤ R.length ∧ (∀ y ∈ R2, y ∈ R) ∧ (hopS (R.map (·.data.toList))).2 = R2.map (·.data.toList) ∧ (∀ (i : Nat) (y : ByteArray), R2[i]? = some y → W3.cell? ⟨gL, o + i, none⟩ = some (.string y)) ∧ wx.heap[g]? = some (.cells #[.int .u32 (ppA x0.data.toList), .int .i64 (ppN x0.data.toList), .int .u8 (fromI x1.data.toList), .int .i64 (num31 x2.data.toList), .int .i64 (num31 x3.data.toList), .int .i64 (num31 x4.data.toList), .string ⟨#[]⟩, .int .u32 (hopS (R.map (·.data.toList))).1, .bool false] 39 (0, 0)) ∧ Below W3.heap.size W3 wx))
      case first =>
        cases bv with
        | true =>
          obtain ⟨v, x, t, rfl, hv⟩ := beg_two hbv
          have hz : n = t.length + 2 := HN2.out
          obtain rfl := hA (by omega)
          have hi0 : (0 : Int) < (n : Int) := by omega
          have hi1 : (1 : Int) < (n : Int) := by omega
          have hj0 : 0 < n := by omega
          have hj1 : 1 < n := by omega
          have hj2 : 2 ≤ n := by omega
          have hj2i : (2 : Int) ≤ (n : Int) := by omega
          have HT := Lib.hid (show t.length = n - 2 by omega)
          clear hz hbv
          have f1 : wa.cell? ⟨gL, 6, none⟩ = some (.string x) := cell_kept HH1.out.2 (HCL.out 1 x rfl)
          have hh := Lib.hid (hop_yes (x := x.data.toList) (t := t.map (·.data.toList)) hv)
          have hsx := HL.out x (by simp)
          clear hv
          go_wp2_with fail
          refine (hAd.out x hsx _ HH1.out.2).mono ?_
          rintro e wd ⟨rfl, hb⟩
          have hbd := Lib.hid (below_call HH1.out.2 hb)
          have hkd := blk_below hb HH1.out.1
          obtain ⟨n0, n1, n2, n3, n4, n5, n6, n7, n8⟩ := blk9 hkd
          have m0 := frozen_row hkd 0
          have m1 := frozen_row hkd 1
          have m2 := frozen_row hkd 2
          have m3 := frozen_row hkd 3
          have m4 := frozen_row hkd 4
          have m5 := frozen_row hkd 5
          have m6 := frozen_row hkd 6
          have m7 := frozen_row hkd 7
          have m8 := frozen_row hkd 8
          have HKD := Lib.hid hkd
          clear hkd hb f1
          by_cases h2 : n = 2
          · obtain rfl : t = [] := List.eq_nil_of_length_eq_zero (by have := HT.out; omega)
            go_wp2_with fail
            go_meet
            refine ⟨_, 7, _, [], rfl, fun h => absurd h (by simp), by simp, fun y h => by simp at h, congrArg Prod.snd hh.out, fun i y hy => by simp at hy, ?_, hbd.out.setCell hgW _⟩
            rw [show (hopS (([v, x] : List ByteArray).map (·.data.toList))).1 = adV (parseB x.data.toList) from congrArg Prod.fst hh.out]
            exact qset7 HKD.out
          · go_wp2_with fail
            go_meet
            refine ⟨_, 7, _, t, by rw [HT.out], fun h => rfl, by simp; omega, fun y h => by simp [h], congrArg Prod.snd hh.out, fun i y hy => ?_, ?_, hbd.out.setCell hgW _⟩
            · have := HCL.out (i + 2) y hy
              rwa [show 5 + (i + 2) = 7 + i by omega] at this
            · rw [show (hopS ((v :: x :: t).map (·.data.toList))).1 = adV (parseB x.data.toList) from congrArg Prod.fst hh.out]
              exact qset7 HKD.out
        | false =>
          have hh := hop_of hbv
          have HHB := Lib.hid hh
          clear hh hbv
          go_wp2_with fail
          go_meet
          refine ⟨_, 5, _, R, by rw [← HN2.out], fun h => hA (by have := HN2.out; omega), by simp, fun y h => h, by rw [HHB.out], HCL.out, ?_, HH1.out.2⟩
          rw [HHB.out]
          exact HH1.out.1
      case rest =>
        obtain ⟨A2, o2, c2, R2, hs4, hh2⟩ := hcut
        subst hs4
        rename World => wb
        obtain ⟨hA2, hlen2, hmem2, hhop, hcl2, hk2, hb2⟩ := hh2.out
        have HCL2 := Lib.hid hcl2
        have HK2 := Lib.hid hk2
        have HB2 := Lib.hid hb2
        have HHOP := Lib.hid hhop
        clear hh2 hmem2 hcl2 hk2 hb2 hhop HH1 hn63 hA
        have hn63 : R2.length ≤ 9223372036854775807 := by have := HNR.out; have := HN2.out; omega
        clear hlen2
        go_upto_region 10 with fail
        generalize hn2 : R2.length = n2 at *
        have HN3 := Lib.hid hn2.symm
        clear hn2
        go_cut [73] (fun sb wx => sb = .bool (begB onW R2) ∧ Hid (wx.heap[g]? = some (.cells #[.int .u32 (ppA x0.data.toList), .int .i64 (ppN x0.data.toList), .int .u8 (fromI x1.data.toList), .int .i64 (num31 x2.data.toList), .int .i64 (num31 x3.data.toList), .int .i64 (num31 x4.data.toList), .string ⟨#[]⟩, .int .u32 (hopS (R.map (·.data.toList))).1, .bool false] 39 (0, 0)) ∧ Below W3.heap.size W3 wx))
        case first =>
          rcases R2 with _ | ⟨v, _ | ⟨x, t⟩⟩
          · have hz : n2 = 0 := HN3.out
            have hI : ¬ (n2 : Int) > 1 := by omega
            clear hz
            go_wp2_with fail
            go_meet
            exact ⟨rfl, HK2.out, HB2.out⟩
          · have hz : n2 = 1 := HN3.out
            have hI : ¬ (n2 : Int) > 1 := by omega
            clear hz
            go_wp2_with fail
            go_meet
            exact ⟨rfl, HK2.out, HB2.out⟩
          · have hz : n2 = t.length + 2 := HN3.out
            obtain rfl := hA2 (by omega)
            have hI : (n2 : Int) > 1 := by omega
            have hi0 : (0 : Int) < (n2 : Int) := by omega
            have hj0 : 0 < n2 := by omega
            have f0 : wb.cell? ⟨gL, o2, none⟩ = some (.string v) := cell_kept HB2.out (HCL2.out 0 v rfl)
            have hv1 : (v.toList == [111, 110]) = begB onW (v :: x :: t) := by
              rw [list_of, Bool.eq_iff_iff]
              simp only [begB, beq_iff_eq, decide_eq_true_eq]
              exact Iff.rfl
            clear hz
            go_wp2_with fail
            go_meet
            exact ⟨rfl, HK2.out, HB2.out⟩
        case rest =>
          obtain ⟨hs73, hh3⟩ := hcut
          subst hs73
          clear HK2 HB2
          rename World => wd
          have HH3 := Lib.hid hh3
          clear hh3
          obtain ⟨bo, hbo⟩ : ∃ b, begB onW R2 = b := ⟨_, rfl⟩
          rw [hbo]
          go_upto_if 73 with fail
          go_cut [4] (fun s4 wx => ∃ (A : Option Addr) (c : Nat), s4 = .slice A (nmS (R2.map (·.data.toList))).2.length c ∧ Hid (wx.heap[g]? = some (.cells #[.int .u32 (ppA x0.data.toList), .int .i64 (ppN x0.data.toList), .int .u8 (fromI x1.data.toList), .int .i64 (num31 x2.data.toList), .int .i64 (num31 x3.data.toList), .int .i64 (num31 x4.data.toList), .string ⟨(nmS (R2.map (·.data.toList))).1.toArray⟩, .int .u32 (hopS (R.map (·.data.toList))).1, .bool false] 39 (0, 0)) ∧ Below W3.heap.size W3 wx))
          case first =>
            cases bo with
            | true =>
              obtain ⟨v, x, t, rfl, hv⟩ := beg_two hbo
              have hz : n2 = t.length + 2 := HN3.out
              obtain rfl := hA2 (by omega)
              have hi0 : (0 : Int) < (n2 : Int) := by omega
              have hi1 : (1 : Int) < (n2 : Int) := by omega
              have hj0 : 0 < n2 := by omega
              have hj1 : 1 < n2 := by omega
              have hj2 : 2 ≤ n2 := by omega
              have hj2i : (2 : Int) ≤ (n2 : Int) := by omega
              have HT := Lib.hid (show t.length = n2 - 2 by omega)
              clear hz hbo
              have f1 : wd.cell? ⟨gL, o2 + 1, none⟩ = some (.string x) := cell_kept HH3.out.2 (HCL2.out 1 x rfl)
              have hh := Lib.hid (nm_yes (x := x.data.toList) (t := t.map (·.data.toList)) hv)
              clear hv
              have hkd := HH3.out.1
              obtain ⟨n0, n1, n2', n3, n4, n5, n6, n7, n8⟩ := blk9 hkd
              have m0 := frozen_row hkd 0
              have m1 := frozen_row hkd 1
              have m2 := frozen_row hkd 2
              have m3 := frozen_row hkd 3
              have m4 := frozen_row hkd 4
              have m5 := frozen_row hkd 5
              have m6 := frozen_row hkd 6
              have m7 := frozen_row hkd 7
              have m8 := frozen_row hkd 8
              have HKD := Lib.hid hkd
              clear hkd
              have hns : nmS ((v :: x :: t).map (·.data.toList)) = (x.data.toList, t.map (·.data.toList)) := hh.out
              have HNS := Lib.hid hns
              clear hns
              by_cases h2 : c2 = 2
              all_goals (
                go_wp2_with fail
                go_meet
                refine ⟨_, _, by rw [HNS.out, List.length_map, HT.out], ?_, HH3.out.2.setCell hgW _⟩
                rw [HNS.out, str_mk]
                exact qset6 HKD.out)
            | false =>
              have hh := Lib.hid (nm_of hbo)
              clear hbo
              go_wp2_with fail
              go_meet
              refine ⟨_, _, by rw [hh.out, List.length_map, ← HN3.out], ?_, HH3.out.2⟩
              rw [hh.out]
              exact HH3.out.1
          case rest =>
            obtain ⟨A4, c4, hs4, hh4⟩ := hcut
            subst hs4
            rename World => wf
            clear HH3 hA2 hbo
            have hC0 : restR (R.map (·.data.toList)) = (((hopS (R.map (·.data.toList))).1), (nmS (R2.map (·.data.toList))).1, !(nmS (R2.map (·.data.toList))).2.isEmpty) := by rw [restR_steps, HHOP.out]
            have hlen4 : (nmS (R2.map (·.data.toList))).2.length ≤ 9223372036854775807 := by
              have h1 : (nmS (R2.map (·.data.toList))).2.length ≤ (R2.map (·.data.toList)).length := by
                unfold nmS
                split
                · split
                  · rename_i h _; rw [h]; simp; omega
                  · exact Nat.le_refl _
                · exact Nat.le_refl _
              rw [List.length_map] at h1
              have := HN3.out; omega
            have hdc : decide (0 < (nmS (R2.map (·.data.toList))).2.length) = !(nmS (R2.map (·.data.toList))).2.isEmpty := by
              cases (nmS (R2.map (·.data.toList))).2 with
              | nil => rfl
              | cons a b => simp
            have hkC : (wf.setCell ⟨g, 8, none⟩ (.bool (decide (0 < (nmS (R2.map (·.data.toList))).2.length)))).heap[g]? = some (rtObj (candR x0.data.toList x1.data.toList x2.data.toList x3.data.toList x4.data.toList (R.map (·.data.toList)))) := by
              rw [qset8 hh4.out.1, hdc]
              unfold rtObj candR
              dsimp only
              rw [hC0]
            have hbC := hh4.out.2.setCell (p := ⟨g, 8, none⟩) hgW (.bool (decide (0 < (nmS (R2.map (·.data.toList))).2.length)))
            have hO := roO_cand HP.out
            have hk4 := hh4.out.1
            obtain ⟨n0, n1, n2', n3, n4, n5, n6, n7, n8⟩ := blk9 hk4
            have m8 := frozen_row hk4 8
            clear hC0 hdc hh4 hk4
            generalize (nmS (R2.map (·.data.toList))).2.length = nl at *
            have HO := Lib.hid hO
            have HKC := Lib.hid hkC
            have HBC := Lib.hid hbC
            clear hO hkC hbC
            go_upto_region 14 with fail
            clear n0 n1 n2' n3 n4 n5 n6 n7 n8 m8
            generalize candR x0.data.toList x1.data.toList x2.data.toList x3.data.toList x4.data.toList (R.map (·.data.toList)) = C at *
            have hkC2 := HKC.out
            obtain ⟨n0, n1, n2', n3, n4, n5, n6, n7, n8⟩ := rt_blk hkC2
            clear hkC2
            generalize wf.setCell ⟨g, 8, none⟩ (.bool (decide (0 < nl))) = wg at *
            have hEg := hE3.below HBC.out
            have hT0 := rtText_any C wg hEg (fun _ => name_any C.nm)
            obtain ⟨tt, htt⟩ : ∃ x, (⟨C.told.toArray⟩ : ByteArray) = x := ⟨_, rfl⟩
            rw [htt] at hT0
            have hT := Lib.hid hT0
            have HTT := Lib.hid htt
            clear hT0 htt
            go_wp2_with fail
            refine hT.out.mono ?_
            rintro e wh ⟨rfl, hbh⟩
            have hbW := below_call HBC.out hbh
            have hk0 := blk_below hbW HK3.out
            have hbw := hb3.trans (hbW.mono hb3.size)
            have HKC2 := Lib.hid (blk_below hbh HKC.out)
            obtain ⟨d0, d1, d2, d3, d4, d5, d6, d7, d8⟩ := rt_blk (r := default) hk0
            have z0 := frozen_row hk0 0
            have z1 := frozen_row hk0 1
            have z2 := frozen_row hk0 2
            have z3 := frozen_row hk0 3
            have z4 := frozen_row hk0 4
            have z5 := frozen_row hk0 5
            have z6 := frozen_row hk0 6
            have z7 := frozen_row hk0 7
            have z8 := frozen_row hk0 8
            have HKZ := Lib.hid hk0
            clear n0 n1 n2' n3 n4 n5 n6 n7 n8 hk0 hbh hT
            by_cases he : ppE x0.data.toList = 0
            · have he1 : (ppE x0.data.toList != 0) = false := by simpa using he
              cases hok : C.ok with
              | true =>
                have ht1 := rt_told_yes hok
                by_cases ht : C.text = s.data.toList
                · have hz := Lib.hid (ro_some (HO.out.trans (if_pos ⟨he, hok, ht⟩)))
                  have hs1 : (tt.toList != s.toList) = false := by rw [← HTT.out, ht1.1, ht, str_mk]; simp
                  have hs3 : (tt.toList == s.toList) = true := by simpa using hs1
                  have hs2 : (C.toldE != 0) = false := by rw [ht1.2]; rfl
                  have hkC2 := HKC2.out
                  obtain ⟨n0, n1, n2', n3, n4, n5, n6, n7, n8⟩ := rt_blk hkC2
                  clear hkC2 he hok ht ht1
                  go_wp2_with fail
                  exact bodyPost_ret (results_t (t1 := 2) (t3 := 3) (g := w.heap.size) (r := C) Tryd.results11 rfl rfl (qset8 (qset7 (qset6 (qset5 (qset4 (qset3 (qset2 (qset1 (qset0 HKZ.out)))))))))) rfl ⟨by rw [hz.out.1, hz.out.2]; rfl, (((((((((hbw.setCell (Nat.le_refl _) _).setCell (Nat.le_refl _) _).setCell (Nat.le_refl _) _).setCell (Nat.le_refl _) _).setCell (Nat.le_refl _) _).setCell (Nat.le_refl _) _).setCell (Nat.le_refl _) _).setCell (Nat.le_refl _) _).setCell (Nat.le_refl _) _)⟩
                · have hz := Lib.hid (ro_none (HO.out.trans (if_neg fun h => ht h.2.2)))
                  have hs1 : (tt.toList != s.toList) = true := by
                    rw [← HTT.out, ht1.1, list_of, list_of]
                    simpa using ht
                  have hs3 : (tt.toList == s.toList) = false := by simpa using hs1
                  have hs2 : (C.toldE != 0) = false := by rw [ht1.2]; rfl
                  clear he hok ht ht1
                  go_wp2_with fail
                  exact bodyPost_ret (results_t (t1 := 2) (t3 := 3) (g := w.heap.size) (r := default) Tryd.results11 rfl rfl (qset8 (qset7 (qset6 (qset5 (qset4 (qset3 (qset2 (qset1 (qset0 HKZ.out)))))))))) rfl ⟨by rw [hz.out.1, hz.out.2]; rfl, (((((((((hbw.setCell (Nat.le_refl _) _).setCell (Nat.le_refl _) _).setCell (Nat.le_refl _) _).setCell (Nat.le_refl _) _).setCell (Nat.le_refl _) _).setCell (Nat.le_refl _) _).setCell (Nat.le_refl _) _).setCell (Nat.le_refl _) _).setCell (Nat.le_refl _) _)⟩
              | false =>
                have ht1 := rt_told_no hok
                have hz := Lib.hid (ro_none (HO.out.trans (if_neg fun h => by rw [hok] at h; exact absurd h.2.1 (by decide))))
                have hs2 : (C.toldE != 0) = true := by rw [ht1.2]; rfl
                clear he hok ht1
                go_wp2_with fail
                exact bodyPost_ret (results_t (t1 := 2) (t3 := 3) (g := w.heap.size) (r := default) Tryd.results11 rfl rfl (qset8 (qset7 (qset6 (qset5 (qset4 (qset3 (qset2 (qset1 (qset0 HKZ.out)))))))))) rfl ⟨by rw [hz.out.1, hz.out.2]; rfl, (((((((((hbw.setCell (Nat.le_refl _) _).setCell (Nat.le_refl _) _).setCell (Nat.le_refl _) _).setCell (Nat.le_refl _) _).setCell (Nat.le_refl _) _).setCell (Nat.le_refl _) _).setCell (Nat.le_refl _) _).setCell (Nat.le_refl _) _).setCell (Nat.le_refl _) _)⟩
            · have he1 : (ppE x0.data.toList != 0) = true := by simpa using he
              have hz := Lib.hid (ro_none (HO.out.trans (if_neg fun h => he h.1)))
              clear he
              go_wp2_with fail
              exact bodyPost_ret (results_t (t1 := 2) (t3 := 3) (g := w.heap.size) (r := default) Tryd.results11 rfl rfl (qset8 (qset7 (qset6 (qset5 (qset4 (qset3 (qset2 (qset1 (qset0 HKZ.out)))))))))) rfl ⟨by rw [hz.out.1, hz.out.2]; rfl, (((((((((hbw.setCell (Nat.le_refl _) _).setCell (Nat.le_refl _) _).setCell (Nat.le_refl _) _).setCell (Nat.le_refl _) _).setCell (Nat.le_refl _) _).setCell (Nat.le_refl _) _).setCell (Nat.le_refl _) _).setCell (Nat.le_refl _) _).setCell (Nat.le_refl _) _)⟩
theorem rtParse_short (s : ByteArray) (L : List ByteArray) (w : World) (hE : Env w) (hlim : s.size < 4294967281) (hP : (pieces 32 s.data.toList).length = L.length) (hS : Lib.splitB ⟨#[32]⟩ 0 (Lib.countB s ⟨#[32]⟩) s = L) (hN : Lib.countB s ⟨#[32]⟩ + 1 = L.length) (h5 : L.length < 5) :
    Calls Tryd.prog 11 #[.string s] w fun e w' => e = .returned (.tuple #[.agg #[.int .u32 (roV s.data.toList).a, .int .i64 (roV s.data.toList).m, .int .u8 (roV s.data.toList).fr, .int .i64 (roV s.data.toList).di, .int .i64 (roV s.data.toList).me, .int .i64 (roV s.data.toList).ta, .string ⟨(roV s.data.toList).nm.toArray⟩, .int .u32 (roV s.data.toList).ho, .bool (roV s.data.toList).dc], .int .i64 (roE s.data.toList)]) ∧ Below w.heap.size w w' := by
  have hkz := heap_alloc_new w (rtObj default)
  have hb0 := below1 w (rtObj default)
  have hE0 := hE.below hb0
  obtain ⟨m, hm⟩ := hE0.len
  have hSp := Tryd.strings_Split s ⟨#[32]⟩ m (w.alloc (rtObj default)) (by omega) hm (by decide)
  rw [hS, hN] at hSp
  have HSp := Lib.hid hSp
  have hz := Lib.hid (ro_none (roO_len (l := s.data.toList) (by rw [hP]; exact h5)))
  have hd : (L.length : Int) < 5 := by omega
  clear hSp hS hN hm hP
  go_enter Tryd.func11, Tryd.ntmps11
  go_wp2_with fail
  refine HSp.out.mono ?_
  rintro e w1 ⟨rfl, rfl⟩
  have hk1 := (Below.heap_alloc (w.alloc (rtObj default)) (.cells (L.map Value.string).toArray 9) _ (lt_of_block hkz)).trans hkz
  have hb1 := hb0.alloc hb0.size (.cells (L.map Value.string).toArray 9)
  clear HSp hE0 hkz hb0
  generalize (w.alloc (rtObj default)).alloc (.cells (L.map Value.string).toArray 9) = W at *
  obtain ⟨c0, c1, c2, c3, c4, c5, c6, c7, c8⟩ := rt_blk (r := default) hk1
  have f0 := frozen_row hk1 0
  have f1 := frozen_row hk1 1
  have f2 := frozen_row hk1 2
  have f3 := frozen_row hk1 3
  have f4 := frozen_row hk1 4
  have f5 := frozen_row hk1 5
  have f6 := frozen_row hk1 6
  have f7 := frozen_row hk1 7
  have f8 := frozen_row hk1 8
  have HK := Lib.hid hk1
  clear hk1
  go_wp2
  exact bodyPost_ret (results_t (t1 := 2) (t3 := 3) (g := w.heap.size) (r := default) Tryd.results11 rfl rfl (qset8 (qset7 (qset6 (qset5 (qset4 (qset3 (qset2 (qset1 (qset0 HK.out)))))))))) rfl ⟨by rw [hz.out.1, hz.out.2]; rfl, (((((((((hb1.setCell (Nat.le_refl _) _).setCell (Nat.le_refl _) _).setCell (Nat.le_refl _) _).setCell (Nat.le_refl _) _).setCell (Nat.le_refl _) _).setCell (Nat.le_refl _) _).setCell (Nat.le_refl _) _).setCell (Nat.le_refl _) _).setCell (Nat.le_refl _) _)⟩
theorem five_list {L : List ByteArray} (h : 5 ≤ L.length) : ∃ a b c d e R, L = a :: b :: c :: d :: e :: R := by
  rcases L with _ | ⟨a, _ | ⟨b, _ | ⟨c, _ | ⟨d, _ | ⟨e, R⟩⟩⟩⟩⟩
  all_goals first | exact ⟨_, _, _, _, _, _, rfl⟩ | (simp at h)
theorem rtParse_any (s : ByteArray) (w : World) (hE : Env w) (hlim : s.size < 4294967281) :
    Calls Tryd.prog 11 #[.string s] w fun e w' => e = .returned (.tuple #[.agg #[.int .u32 (roV s.data.toList).a, .int .i64 (roV s.data.toList).m, .int .u8 (roV s.data.toList).fr, .int .i64 (roV s.data.toList).di, .int .i64 (roV s.data.toList).me, .int .i64 (roV s.data.toList).ta, .string ⟨(roV s.data.toList).nm.toArray⟩, .int .u32 (roV s.data.toList).ho, .bool (roV s.data.toList).dc], .int .i64 (roE s.data.toList)]) ∧ Below w.heap.size w w' := by
  have hP := splitB_pieces 32 s
  have hN := countB_pieces 32 s
  have hl : (Lib.splitB ⟨#[32]⟩ 0 (Lib.countB s ⟨#[32]⟩) s).length = (pieces 32 s.data.toList).length := by rw [← hP, List.length_map]
  have hss : s.data.toList.length = s.size := Array.length_toList
  have hcnt := pieces_cnt 32 s.data.toList
  have hsz : ∀ x ∈ Lib.splitB ⟨#[32]⟩ 0 (Lib.countB s ⟨#[32]⟩) s, x.size < 4294967281 := fun x hx => by
    have h1 : x.data.toList ∈ pieces 32 s.data.toList := by rw [← hP]; exact List.mem_map_of_mem hx
    have h2 := pieces_len 32 _ _ h1
    have e2 : x.data.toList.length = x.size := Array.length_toList
    omega
  by_cases h5 : 5 ≤ (pieces 32 s.data.toList).length
  · obtain ⟨x0, x1, x2, x3, x4, R, hL⟩ := five_list (L := Lib.splitB ⟨#[32]⟩ 0 (Lib.countB s ⟨#[32]⟩) s) (by rw [hl]; exact h5)
    rw [hL] at hP hsz
    have hlen : (pieces 32 s.data.toList).length = R.length + 5 := by rw [← hl, hL]; rfl
    exact rtParse_five s x0 x1 x2 x3 x4 R w hE hlim hP.symm hL _ (by rw [hN]) hlen hsz (by omega)
  · exact rtParse_short s _ w hE hlim hl.symm rfl (by rw [hN, hl]) (by rw [hl]; omega)
end Go.Proofs.YtakkgamhceignaaDoor

/-
  '==' on two routes.
-/
namespace Go.Proofs.YtakkgamhceignaaDoor
open Go Go.RowKit Go.Sort

set_option maxHeartbeats 4000000 in
theorem eqPrefG (a m b n : Int) (d : Nat) (w : World) : (Op.equalIn (d + 1 + 1) 37 (.agg #[.int .u32 a, .int .i64 m]) (.agg #[.int .u32 b, .int .i64 n])).run Tryd.prog w = .ok (a == b && m == n) w := by
  have hS : Tryd.prog.underlying 37 = some (.struct (Tryd.prog.fieldsOf 37)) := by kernel_rfl
  have hp : Tryd.prog.stoodInHeld 37 = false := by kernel_rfl
  have a1 := Tryd.underlying35
  have a2 := Tryd.isAgg35
  have a3 := Tryd.sizeOf35
  have b1 := Tryd.underlying3
  have b2 := Tryd.isAgg3
  have b3 := Tryd.sizeOf3
  rw [run_equalIn_agg w (d + 1) 37 _ _ hS hp]
  simp only [Program.fieldsOf, Tryd.underlying37]
  by_cases h : a = b
  · subst h
    have e : (a == a) = true := by simp
    by_cases k : m = n
    · subst k
      have e2 : (m == m) = true := by simp
      go_simp
    · have e2 : (m == n) = false := by simpa using k
      go_simp
  · have e : (a == b) = false := by simpa using h
    go_simp
set_option maxRecDepth 100000 in
set_option maxHeartbeats 4000000 in
theorem eqlRoute (r q : RtV) : ∃ b : Bool, (∀ W, (binOp .eql 39 (.agg #[.int .u32 r.a, .int .i64 r.m, .int .u8 r.fr, .int .i64 r.di, .int .i64 r.me, .int .i64 r.ta, .string ⟨r.nm.toArray⟩, .int .u32 r.ho, .bool r.dc]) (.agg #[.int .u32 q.a, .int .i64 q.m, .int .u8 q.fr, .int .i64 q.di, .int .i64 q.me, .int .i64 q.ta, .string ⟨q.nm.toArray⟩, .int .u32 q.ho, .bool q.dc])).run Tryd.prog W = .ok (.bool b) W) ∧ (b = true ↔ r = q) := by
  have hS : Tryd.prog.underlying 39 = some (.struct (Tryd.prog.fieldsOf 39)) := by kernel_rfl
  have hp : Tryd.prog.stoodInHeld 39 = false := by kernel_rfl
  have b1 := Tryd.underlying3
  have b2 := Tryd.isAgg3
  have b3 := Tryd.sizeOf3
  have c1 := Tryd.underlying4
  have c2 := Tryd.isAgg4
  have c3 := Tryd.sizeOf4
  have f1 := Tryd.underlying9
  have f2 := Tryd.isAgg9
  have f3 := Tryd.sizeOf9
  have g1 := Tryd.underlying5
  have g2 := Tryd.isAgg5
  have g3 := Tryd.sizeOf5
  have h1 := Tryd.underlying35
  have h2 := Tryd.isAgg35
  have h3 := Tryd.sizeOf35
  have d2 := Tryd.isAgg37
  have d3 := Tryd.sizeOf37
  have hnm : ((⟨r.nm.toArray⟩ : ByteArray).toList == (⟨q.nm.toArray⟩ : ByteArray).toList) = decide (r.nm = q.nm) := by
    rw [list_of, list_of, Bool.eq_iff_iff]; simp
  generalize (⟨r.nm.toArray⟩ : ByteArray) = rn at *
  generalize (⟨q.nm.toArray⟩ : ByteArray) = qn at *
  have hx : ∃ b : Bool, (∀ W, (binOp .eql 39 (.agg #[.int .u32 r.a, .int .i64 r.m, .int .u8 r.fr, .int .i64 r.di, .int .i64 r.me, .int .i64 r.ta, .string rn, .int .u32 r.ho, .bool r.dc]) (.agg #[.int .u32 q.a, .int .i64 q.m, .int .u8 q.fr, .int .i64 q.di, .int .i64 q.me, .int .i64 q.ta, .string qn, .int .u32 q.ho, .bool q.dc])).run Tryd.prog W = .ok (.bool b) W) ∧ (b = true ↔ r = q) := by
    by_cases k0 : (r.a == q.a && r.m == q.m) = true
    · by_cases k1 : (r.fr == q.fr) = true
      · by_cases k2 : (r.di == q.di) = true
        · by_cases k3 : (r.me == q.me) = true
          · by_cases k4 : (r.ta == q.ta) = true
            · by_cases k5 : (rn.toList == qn.toList) = true
              · by_cases k6 : (r.ho == q.ho) = true
                · by_cases k7 : (r.dc == q.dc) = true
                  · refine ⟨true, fun W => ?_, ?_⟩
                    · rw [run_eql_struct, show (10000 : Nat) = 9997 + 1 + 1 + 1 from rfl, run_equalIn_agg W (9997 + 1 + 1) 39 _ _ hS hp]; generalize 9997 = d; have E1 := fun a m b n w => eqPrefG a m b n d w; simp only [Program.fieldsOf, Tryd.underlying39]; clear hnm; go_simp
                    · simp only [true_iff]
                      simp only [Bool.and_eq_true, beq_iff_eq] at k0 k1 k2 k3 k4 k6 k7
                      rw [hnm] at k5
                      exact rt_ext k0.1 k0.2 k1 k2 k3 k4 (of_decide_eq_true k5) k6 k7
                  · replace k7 := Bool.eq_false_iff.2 k7
                    refine ⟨false, fun W => ?_, ?_⟩
                    · rw [run_eql_struct, show (10000 : Nat) = 9997 + 1 + 1 + 1 from rfl, run_equalIn_agg W (9997 + 1 + 1) 39 _ _ hS hp]; generalize 9997 = d; have E1 := fun a m b n w => eqPrefG a m b n d w; simp only [Program.fieldsOf, Tryd.underlying39]; clear hnm; go_simp
                    · constructor
                      · intro h; cases h
                      · rintro rfl
                        first | (simp at k7; done) | (rw [hnm] at k7; simp at k7)
                · replace k6 := Bool.eq_false_iff.2 k6
                  refine ⟨false, fun W => ?_, ?_⟩
                  · rw [run_eql_struct, show (10000 : Nat) = 9997 + 1 + 1 + 1 from rfl, run_equalIn_agg W (9997 + 1 + 1) 39 _ _ hS hp]; generalize 9997 = d; have E1 := fun a m b n w => eqPrefG a m b n d w; simp only [Program.fieldsOf, Tryd.underlying39]; clear hnm; go_simp
                  · constructor
                    · intro h; cases h
                    · rintro rfl
                      first | (simp at k6; done) | (rw [hnm] at k6; simp at k6)
              · replace k5 := Bool.eq_false_iff.2 k5
                refine ⟨false, fun W => ?_, ?_⟩
                · rw [run_eql_struct, show (10000 : Nat) = 9997 + 1 + 1 + 1 from rfl, run_equalIn_agg W (9997 + 1 + 1) 39 _ _ hS hp]; generalize 9997 = d; have E1 := fun a m b n w => eqPrefG a m b n d w; simp only [Program.fieldsOf, Tryd.underlying39]; clear hnm; go_simp
                · constructor
                  · intro h; cases h
                  · rintro rfl
                    first | (simp at k5; done) | (rw [hnm] at k5; simp at k5)
            · replace k4 := Bool.eq_false_iff.2 k4
              refine ⟨false, fun W => ?_, ?_⟩
              · rw [run_eql_struct, show (10000 : Nat) = 9997 + 1 + 1 + 1 from rfl, run_equalIn_agg W (9997 + 1 + 1) 39 _ _ hS hp]; generalize 9997 = d; have E1 := fun a m b n w => eqPrefG a m b n d w; simp only [Program.fieldsOf, Tryd.underlying39]; clear hnm; go_simp
              · constructor
                · intro h; cases h
                · rintro rfl
                  first | (simp at k4; done) | (rw [hnm] at k4; simp at k4)
          · replace k3 := Bool.eq_false_iff.2 k3
            refine ⟨false, fun W => ?_, ?_⟩
            · rw [run_eql_struct, show (10000 : Nat) = 9997 + 1 + 1 + 1 from rfl, run_equalIn_agg W (9997 + 1 + 1) 39 _ _ hS hp]; generalize 9997 = d; have E1 := fun a m b n w => eqPrefG a m b n d w; simp only [Program.fieldsOf, Tryd.underlying39]; clear hnm; go_simp
            · constructor
              · intro h; cases h
              · rintro rfl
                first | (simp at k3; done) | (rw [hnm] at k3; simp at k3)
        · replace k2 := Bool.eq_false_iff.2 k2
          refine ⟨false, fun W => ?_, ?_⟩
          · rw [run_eql_struct, show (10000 : Nat) = 9997 + 1 + 1 + 1 from rfl, run_equalIn_agg W (9997 + 1 + 1) 39 _ _ hS hp]; generalize 9997 = d; have E1 := fun a m b n w => eqPrefG a m b n d w; simp only [Program.fieldsOf, Tryd.underlying39]; clear hnm; go_simp
          · constructor
            · intro h; cases h
            · rintro rfl
              first | (simp at k2; done) | (rw [hnm] at k2; simp at k2)
      · replace k1 := Bool.eq_false_iff.2 k1
        refine ⟨false, fun W => ?_, ?_⟩
        · rw [run_eql_struct, show (10000 : Nat) = 9997 + 1 + 1 + 1 from rfl, run_equalIn_agg W (9997 + 1 + 1) 39 _ _ hS hp]; generalize 9997 = d; have E1 := fun a m b n w => eqPrefG a m b n d w; simp only [Program.fieldsOf, Tryd.underlying39]; clear hnm; go_simp
        · constructor
          · intro h; cases h
          · rintro rfl
            first | (simp at k1; done) | (rw [hnm] at k1; simp at k1)
    · replace k0 := Bool.eq_false_iff.2 k0
      refine ⟨false, fun W => ?_, ?_⟩
      · rw [run_eql_struct, show (10000 : Nat) = 9997 + 1 + 1 + 1 from rfl, run_equalIn_agg W (9997 + 1 + 1) 39 _ _ hS hp]; generalize 9997 = d; have E1 := fun a m b n w => eqPrefG a m b n d w; simp only [Program.fieldsOf, Tryd.underlying39]; clear hnm; go_simp
      · constructor
        · intro h; cases h
        · rintro rfl
          first | (simp at k0; done) | (rw [hnm] at k0; simp at k0)
  exact hx
end Go.Proofs.YtakkgamhceignaaDoor

/-
  The law's own awake() of stage 8 (written by wip/gen/genaw8.py).
-/
namespace Go.Proofs.YtakkgamhceignaaDoor
open Go Go.RowKit Go.Sort

def r08 : RtV := ⟨167772160, 8, 3, 110, 20, 0, [101, 116, 104, 48], 167837697, false, by omega, by omega, by omega, by omega, by omega, by omega, by omega⟩
theorem r08_ok : r08.ok = true := by kernel_rfl
theorem r08_text : r08.text = (#[49, 48, 46, 48, 46, 48, 46, 48, 47, 56, 32, 105, 110, 116, 114, 97, 32, 49, 49, 48, 32, 50, 48, 32, 48, 32, 118, 105, 97, 32, 49, 48, 46, 49, 46, 48, 46, 49, 32, 111, 110, 32, 101, 116, 104, 48] : Array UInt8).toList := by kernel_rfl
set_option maxRecDepth 100000 in
theorem text08 (w : World) (hE : Env w) : Calls Tryd.prog 10 #[.agg #[.int .u32 167772160, .int .i64 8, .int .u8 3, .int .i64 110, .int .i64 20, .int .i64 0, .string ⟨#[101, 116, 104, 48]⟩, .int .u32 167837697, .bool false]] w fun e w' => e = .returned (.tuple #[.string ⟨#[49, 48, 46, 48, 46, 48, 46, 48, 47, 56, 32, 105, 110, 116, 114, 97, 32, 49, 49, 48, 32, 50, 48, 32, 48, 32, 118, 105, 97, 32, 49, 48, 46, 49, 46, 48, 46, 49, 32, 111, 110, 32, 101, 116, 104, 48]⟩, .int .i64 0]) ∧ Below w.heap.size w w' := by
  have h := rtText_any r08 w hE (fun _ => name_any _)
  rw [(rt_told_yes r08_ok).1, (rt_told_yes r08_ok).2, r08_text] at h
  exact h
set_option maxRecDepth 100000 in
theorem parse08 (w : World) (hE : Env w) : Calls Tryd.prog 11 #[.string ⟨#[49, 48, 46, 48, 46, 48, 46, 48, 47, 56, 32, 105, 110, 116, 114, 97, 32, 49, 49, 48, 32, 50, 48, 32, 48, 32, 118, 105, 97, 32, 49, 48, 46, 49, 46, 48, 46, 49, 32, 111, 110, 32, 101, 116, 104, 48]⟩] w fun e w' => e = .returned (.tuple #[.agg #[.int .u32 167772160, .int .i64 8, .int .u8 3, .int .i64 110, .int .i64 20, .int .i64 0, .string ⟨#[101, 116, 104, 48]⟩, .int .u32 167837697, .bool false], .int .i64 0]) ∧ Below w.heap.size w w' := by
  have h := rtParse_any ⟨#[49, 48, 46, 48, 46, 48, 46, 48, 47, 56, 32, 105, 110, 116, 114, 97, 32, 49, 49, 48, 32, 50, 48, 32, 48, 32, 118, 105, 97, 32, 49, 48, 46, 49, 46, 48, 46, 49, 32, 111, 110, 32, 101, 116, 104, 48]⟩ w hE (by decide)
  have e := ro_some (l := (⟨#[49, 48, 46, 48, 46, 48, 46, 48, 47, 56, 32, 105, 110, 116, 114, 97, 32, 49, 49, 48, 32, 50, 48, 32, 48, 32, 118, 105, 97, 32, 49, 48, 46, 49, 46, 48, 46, 49, 32, 111, 110, 32, 101, 116, 104, 48]⟩ : ByteArray).data.toList) (r := r08) (by rw [show (⟨#[49, 48, 46, 48, 46, 48, 46, 48, 47, 56, 32, 105, 110, 116, 114, 97, 32, 49, 49, 48, 32, 50, 48, 32, 48, 32, 118, 105, 97, 32, 49, 48, 46, 49, 46, 48, 46, 49, 32, 111, 110, 32, 101, 116, 104, 48]⟩ : ByteArray).data.toList = r08.text from r08_text.symm]; exact roO_text r08_ok)
  rw [e.1, e.2] at h
  exact h
theorem eql08 (W : World) : (binOp .eql 39 (.agg #[.int .u32 167772160, .int .i64 8, .int .u8 3, .int .i64 110, .int .i64 20, .int .i64 0, .string ⟨#[101, 116, 104, 48]⟩, .int .u32 167837697, .bool false]) (.agg #[.int .u32 167772160, .int .i64 8, .int .u8 3, .int .i64 110, .int .i64 20, .int .i64 0, .string ⟨#[101, 116, 104, 48]⟩, .int .u32 167837697, .bool false])).run Tryd.prog W = .ok (.bool true) W := by
  obtain ⟨b, h1, h2⟩ := eqlRoute r08 r08
  rw [h2.2 rfl] at h1
  exact h1 W
set_option maxRecDepth 100000 in
set_option maxHeartbeats 4000000 in
theorem lawAwake08_any (w : World) (hE : Env w) : Calls Tryd.prog 9 #[] w fun e w' => e = .returned (.bool true) ∧ Below w.heap.size w w' := by
  have hk0 := heap_alloc_new w (.cells #[.int .u32 167772160, .int .i64 8, .int .u8 3, .int .i64 110, .int .i64 20, .int .i64 0, .string ⟨#[101, 116, 104, 48]⟩, .int .u32 167837697, .bool false] 39)
  have hb0 := below1 w (.cells #[.int .u32 167772160, .int .i64 8, .int .u8 3, .int .i64 110, .int .i64 20, .int .i64 0, .string ⟨#[101, 116, 104, 48]⟩, .int .u32 167837697, .bool false] 39)
  have hE0 := hE.below hb0
  obtain ⟨c0, c1, c2, c3, c4, c5, c6, c7, c8⟩ := blk9 (t := 39) hk0
  go_enter Tryd.func9, Tryd.ntmps9
  go_wp2_with fail
  refine (text08 _ hE0).mono ?_
  rintro e w1 ⟨rfl, hb⟩
  have hb1 := below_call hb0 hb
  have k1 := blk_below hb hk0
  clear c0 c1 c2 c3 c4 c5 c6 c7 c8
  go_wp2_with fail
  refine (parse08 _ (hE.below hb1)).mono ?_
  rintro e w2 ⟨rfl, hb⟩
  have hb2 := below_call hb1 hb
  have k2 := blk_below hb k1
  have k3 := blk_below (below1 w2 (.cells #[.int .u32 167772160, .int .i64 8, .int .u8 3, .int .i64 110, .int .i64 20, .int .i64 0, .string ⟨#[101, 116, 104, 48]⟩, .int .u32 167837697, .bool false] 39)) k2
  have k4 := heap_alloc_new w2 (.cells #[.int .u32 167772160, .int .i64 8, .int .u8 3, .int .i64 110, .int .i64 20, .int .i64 0, .string ⟨#[101, 116, 104, 48]⟩, .int .u32 167837697, .bool false] 39)
  obtain ⟨c0, c1, c2, c3, c4, c5, c6, c7, c8⟩ := blk9 (t := 39) k3
  obtain ⟨d0, d1, d2, d3, d4, d5, d6, d7, d8⟩ := blk9 (t := 39) k4
  have hbf := hb2.alloc hb2.size (.cells #[.int .u32 167772160, .int .i64 8, .int .u8 3, .int .i64 110, .int .i64 20, .int .i64 0, .string ⟨#[101, 116, 104, 48]⟩, .int .u32 167837697, .bool false] 39)
  have hq := eql08
  clear hk0 k1 k2 k3 k4 hb hb0 hb1 hb2
  go_wp2
  go_ret
  exact ⟨rfl, hbf⟩
end Go.Proofs.YtakkgamhceignaaDoor

/-
  Walks over the layer of spans: the closure of Form, the sort of spans.
-/
namespace Go.Proofs.YtakkgamhceignaaDoor
open Go Go.RowKit Go.Lib Go.Sort

def SpanV.enc (s : SpanV) : List Value := [.int .u32 s.lo, .int .u32 s.hi]
theorem span_len (s : SpanV) : s.enc.length = 2 := rfl
def cmpS (x y : SpanV) : Int := firstNZ [cmpI x.lo y.lo, cmpI x.hi y.hi]

set_option maxHeartbeats 1000000 in
theorem formClos_any (x y : SpanV) (w : World) :
    Calls Tryd.prog 44 #[.agg #[.int .u32 x.lo, .int .u32 x.hi], .agg #[.int .u32 y.lo, .int .u32 y.hi]] w fun e w' => e = .returned (.int .i64 (cmpS x y)) ∧ ∃ q os', w' = grow (w.drewN q) os' := by
  have hBX : ∃ os, (w.alloc (.cells #[.int .u32 x.lo, .int .u32 x.hi] 24)).alloc (.cells #[.int .u32 y.lo, .int .u32 y.hi] 24) = grow w os := ⟨_, by rw [alloc_eq_grow, alloc_eq_grow, grow_grow]⟩
  have HB := Lib.hid hBX
  clear hBX
  go_enter Tryd.func44, Tryd.ntmps44
  go_wp2
  obtain ⟨k0, k1⟩ := blk2 w (.cells #[.int .u32 x.lo, .int .u32 x.hi] 24) (.cells #[.int .u32 y.lo, .int .u32 y.hi] 24)
  obtain ⟨c0, c1, _, _⟩ := two_cells k0
  obtain ⟨c2, c3, _, _⟩ := two_cells k1
  have hsz := lt_of_block k1
  clear k0 k1
  obtain ⟨os0, hos⟩ := HB.out
  have HOS := Lib.hid hos
  clear hos HB
  generalize (w.alloc (.cells #[.int .u32 x.lo, .int .u32 x.hi] 24)).alloc (.cells #[.int .u32 y.lo, .int .u32 y.hi] 24) = W at *
  go_region_held3 (fun w' => w'.cell? ⟨w.heap.size, 0, none⟩ = some (.int .u32 x.lo) ∧ w'.cell? ⟨w.heap.size, 1, none⟩ = some (.int .u32 x.hi) ∧ w'.cell? ⟨w.heap.size + 1, 0, none⟩ = some (.int .u32 y.lo) ∧ w'.cell? ⟨w.heap.size + 1, 1, none⟩ = some (.int .u32 y.hi)) (go_keep)
    (first | (go_at_call 45; refine (cmpU32_any _ _ _).mono ?_; rintro e w' ⟨rfl, rfl⟩) | (go_at_call 36; refine (cmpOr_any [cmpI x.lo y.lo, cmpI x.hi y.hi] _ _ (Rd.of_blk (cs := #[.int .i64 (cmpI x.lo y.lo), .int .i64 (cmpI x.hi y.hi)]) (t := 3) (heap_drew (heap_alloc_new _ _)) (Nat.le_refl _) rfl) (by simp)).mono ?_; rintro e w' ⟨rfl, rfl⟩))
  all_goals go_wp2
  go_ret
  refine ⟨rfl, 1, os0 ++ #[.cells #[.int .i64 (cmpI x.lo y.lo), .int .i64 (cmpI x.hi y.hi)] 3], ?_⟩
  rw [HOS.out, alloc_eq_grow, grow_grow]
  rfl

end Go.Proofs.YtakkgamhceignaaDoor

/-
  Arguments opened to cells: structs of any depth, slices of structs of any length; no program in sight.
-/
namespace Go.Proofs.YtakkgamhceignaaDoor
open Go Go.RowKit Go.ChangeShapes Go.WideShapes Go.Deep

theorem list_told {α : Type} {Q : Nat → α → Prop} : ∀ n, (∀ i, i < n → ∃ r, Q i r) → ∃ L : List α, L.length = n ∧ ∀ i x, L[i]? = some x → Q i x
  | 0, _ => ⟨[], rfl, fun i x h => by simp at h⟩
  | n + 1, h => by
    obtain ⟨L, hl, hq⟩ := list_told n (fun i hi => h i (by omega))
    obtain ⟨r, hr⟩ := h n (by omega)
    refine ⟨L ++ [r], by simp [hl], fun i x hx => ?_⟩
    by_cases hi : i < L.length
    · rw [List.getElem?_append_left hi] at hx; exact hq i x hx
    · rw [List.getElem?_append_right (by omega)] at hx
      have : i - L.length = 0 := by
        have := (List.getElem?_eq_some_iff.1 hx).1
        simp at this; omega
      rw [this] at hx
      simp at hx
      subst hx
      have : i = n := by omega
      rw [this]; exact hr
theorem flat_inv {α : Type} (enc : α → List Value) (k : Nat) (hk : ∀ x, (enc x).length = k) (L : List α) (j : Nat) (u : Value) (h : (L.flatMap enc)[j]? = some u) :
    ∃ (i jj : Nat) (x : α), j = i * k + jj ∧ jj < k ∧ L[i]? = some x ∧ (enc x)[jj]? = some u := by
  have hj := (List.getElem?_eq_some_iff.1 h).1
  rw [flat_len enc k hk] at hj
  have hk0 : 0 < k := by
    rcases Nat.eq_zero_or_pos k with h0 | h0
    · subst h0; simp at hj
    · exact h0
  have hd : j / k < L.length := Nat.div_lt_of_lt_mul (by rw [Nat.mul_comm]; exact hj)
  have hm := Nat.mod_lt j hk0
  have hdm : j = j / k * k + j % k := by rw [Nat.mul_comm]; exact (Nat.div_add_mod j k).symm
  have hx := List.getElem?_eq_getElem hd
  have hu : (enc L[j / k])[j % k]? = some ((enc L[j / k])[j % k]'(by rw [hk]; exact hm)) := List.getElem?_eq_getElem _
  have hg := flat_get enc k hk L _ _ _ _ hx hu
  rw [← hdm, h] at hg
  exact ⟨j / k, j % k, _, hdm, hm, hx, hu.trans hg.symm⟩

section
variable {H : Type} {enc : TypeId × Value → H} {P : Program} {w : World} {base : Nat} {spare : Nat → Bool} {held : Bool}
theorem sub_at {t : TypeId} {fs : Array Field} {n : Nat} {cs : List Value} {x : DataW H × List MemPlace} (ht : P.underlying t = some (.struct fs)) (h : DataW.trod enc P w base spare held n t cs = some x) :
    cs.length = P.cellsOf t ∧ ∃ m, ∀ (j : Nat) (f : Field) (off : Nat) (ty : TypeId) (k : Nat), fs[j]? = some f → f.offset = off → f.type = ty → P.cellsOf ty = k → ∃ y, DataW.trod enc P w base spare held m ty ((cs.drop off).take k) = some y := by
  obtain ⟨xs, m, _, _, hl, hlen, hf⟩ := DataW.trod_struct ht h
  refine ⟨hl, m, fun j f off ty k hj ho hty hk => ?_⟩
  have h1 := hf j f hj
  have hjl : j < xs.length := by rw [hlen]; exact (Array.getElem?_eq_some_iff.1 hj).1
  subst ho hty hk
  exact ⟨_, h1.trans (List.getElem?_eq_getElem hjl)⟩
/-- A struct as a parameter. -/
theorem open_agg {r : Reach} {b0 : Nat} {t : TypeId} {fs : Array Field} {v : Value} {d : DataW H} {p : List MemPlace} (hs : P.underlying t = some (.struct fs)) (hv : Value.okWide P w r b0 t v) (h : DataW.Trod enc P w base spare held t v d p) :
    ∃ (cs : List Value) (n : Nat), v = .agg cs.toArray ∧ DataW.trod enc P w base spare held n t cs = some (d, p) := by
  obtain ⟨cs, rfl, _⟩ := okWide_struct hs hv
  obtain ⟨n, hf⟩ := h
  exact ⟨cs.toList, n, by simp, hf⟩
/-- A slice as a parameter. -/
theorem open_sl {r : Reach} {b0 : Nat} {t e : TypeId} {v : Value} {d : DataW H} {p : List MemPlace} (hs : P.underlying t = some (.slice e)) (hv : Value.okWide P w r b0 t v) (h : DataW.Trod enc P w base spare held t v d p) :
    ∃ n, DataW.trod enc P w base spare held n t [v] = some (d, p) := by
  obtain ⟨a, len, cap, rfl⟩ := okWide_slice hs hv
  exact h
/-- A slice whose elements' cells are told by one list each. -/
theorem open_rd {α : Type} {encV : α → List Value} {k : Nat} (hk : ∀ x, (encV x).length = k) (hk0 : 0 < k) {t e : TypeId} {n : Nat} {cs : List Value} {x : DataW H × List MemPlace} (ht : P.underlying t = some (.slice e)) (hC : P.cellsOf e = k)
    (hel : ∀ n cs y, DataW.trod enc P w base spare held n e cs = some y → ∃ r, cs = encV r) (h : DataW.trod enc P w base spare held n t cs = some x) :
    ∃ (v : Value) (L : List α), cs = [v] ∧ Rd w w.heap.size k v L.length (L.flatMap encV) ∧ L.length ≤ maxLen := by
  rcases open_slice ht h with ⟨h0, _⟩ | ⟨a, len, cap, m, n', D, Pl, hcs, _, hl, hm, hmm, _, hi⟩
  · exact ⟨_, [], h0, ⟨none, 0, rfl, by simp, by simp, fun h => absurd h (by simp)⟩, by simp⟩
  · have hlm : len ≤ m := by rw [hmm]; split <;> omega
    obtain ⟨L, hL, hq⟩ := list_told (Q := fun i r => w.cells? base (a.add (i * k)) k = some (encV r)) len (fun i hi' => by
      obtain ⟨cs', hc, ht'⟩ := hi i (by omega)
      obtain ⟨r, hr⟩ := hel _ _ _ ht'
      rw [hC] at hc
      exact ⟨r, by rw [hc, hr]⟩)
    refine ⟨_, L, hcs, ⟨some a, cap, by rw [hL], by omega, flat_len encV k hk L, fun hpos => ?_⟩, by omega⟩
    obtain ⟨b, off, sp⟩ := a
    have hz : ∃ u, w.cell? ⟨b, off, sp⟩ = some u := by
      obtain ⟨r, hr⟩ : ∃ r, L[0]? = some r := ⟨_, List.getElem?_eq_getElem hpos⟩
      obtain ⟨_, _, hat⟩ := World.cells?_some (hq 0 r hr)
      have h1 := hat 0 hk0
      have h2 : (encV r)[0]? = some ((encV r)[0]'(by rw [hk]; exact hk0)) := List.getElem?_eq_getElem _
      rw [h2] at h1
      refine ⟨_, Eq.trans ?_ h1⟩
      simp [Addr.add]
    obtain ⟨u0, hu0⟩ := hz
    obtain rfl := Go.Proofs.cell_spot hu0
    refine ⟨b, off, rfl, ?_, fun j u hu => ?_⟩
    · rcases Nat.lt_or_ge b w.heap.size with h | h
      · exact h
      · have hn : w.heap[b]? = none := by simp [h]
        simp [World.cell?, hn] at hu0
    · obtain ⟨i, jj, r, hj, hjj, hr, hu'⟩ := flat_inv encV k hk L j u hu
      obtain ⟨_, _, hat⟩ := World.cells?_some (hq i r hr)
      have h1 := hat jj hjj
      rw [hu'] at h1
      have e : (Addr.add ⟨b, off, none⟩ (i * k)).add jj = ⟨b, off + j, none⟩ := by
        rw [hj]; simp only [Addr.add]
        split <;> split <;> simp_all <;> omega
      rw [← e]; exact h1
end

end Go.Proofs.YtakkgamhceignaaDoor

/-
  Rows of structs and the shelf's sort: cells told both ways; the sort of spans.
-/
namespace Go.Proofs.YtakkgamhceignaaDoor
open Go Go.RowKit Go.Lib Go.Sort

section
variable {α : Type} [Inhabited α] {enc : α → List Value} {k : Nat}
theorem flatK_at (hk : ∀ x, (enc x).length = k) {L : List α} {j : Nat} {u : Value} (h : (L.flatMap enc)[j]? = some u) : (flatK enc k L.toArray)[j]! = u := by
  have hj := (List.getElem?_eq_some_iff.1 h).1
  rw [flat_len enc k hk] at hj
  rw [get_flatK _ _ _ _ (by simpa using hj)]
  obtain ⟨i, jj, x, rfl, hjj, hx, hu⟩ := flat_inv enc k hk L j u h
  have e1 : (i * k + jj) / k = i := by
    rw [Nat.mul_comm, Nat.mul_add_div (by omega), Nat.div_eq_of_lt hjj, Nat.add_zero]
  have e2 : (i * k + jj) % k = jj := by
    rw [Nat.mul_comm, Nat.mul_add_mod, Nat.mod_eq_of_lt hjj]
  rw [e1, e2]
  have hi := (List.getElem?_eq_some_iff.1 hx)
  have e3 : L.toArray[i]! = x := by
    have := get_bang hi.1
    rw [hx] at this
    injection this with this
    rw [this]
    simp
  rw [e3]
  have := get_bang (List.getElem?_eq_some_iff.1 hu).1
  rw [hu] at this
  injection this with this
  exact this.symm
theorem holdsK_of (hk : ∀ x, (enc x).length = k) {L : List α} {w : World} {g off : Nat} (h : ∀ j u, (L.flatMap enc)[j]? = some u → w.cell? ⟨g, off + j, none⟩ = some u) (hf : ∀ j, w.frozen? ⟨g, j, none⟩ = false) : HoldsK enc k w g off L.toArray := by
  intro j hj
  rw [size_flatK] at hj
  have hj' : j < (L.flatMap enc).length := by rw [flat_len enc k hk]; simpa using hj
  refine ⟨?_, hf _⟩
  rw [flatK_at hk (List.getElem?_eq_getElem hj')]
  exact h j _ (List.getElem?_eq_getElem hj')
theorem cells_of_holdsK (hk : ∀ x, (enc x).length = k) {d : Array α} {w : World} {g off : Nat} (h : HoldsK enc k w g off d) : ∀ j u, (d.toList.flatMap enc)[j]? = some u → w.cell? ⟨g, off + j, none⟩ = some u := by
  intro j u hu
  have hj := (List.getElem?_eq_some_iff.1 hu).1
  rw [flat_len enc k hk] at hj
  have := (h j (by rw [size_flatK]; simpa using hj)).1
  have e := flatK_at hk (L := d.toList) hu
  rw [show d.toList.toArray = d by simp] at e
  rw [e] at this
  exact this
theorem below_sortWorldK {w : World} {B g off m : Nat} {d : Array α} {os : Array Obj} (hg : B ≤ g) (hB : B ≤ w.heap.size) : RowKit.Below B w (sortWorldK enc k w g off m d os) := by
  refine ⟨rfl, rfl, rfl, ?_, fun i hi => ?_⟩
  · simp [sortWorldK, grow, putRowK, putRow, mapBlock]
  · have hne : i ≠ g := by omega
    simp only [sortWorldK, grow, putRowK, putRow, mapBlock]
    rw [Array.getElem?_append_left (by simp; omega), Array.getElem?_modify, if_neg (Ne.symm hne)]
    rfl
end

theorem ltS (x y : SpanV) : ltOf cmpS x y = decide (x.lo < y.lo ∨ (x.lo = y.lo ∧ x.hi < y.hi)) := by
  unfold ltOf cmpS
  rcases Int.lt_trichotomy x.lo y.lo with h | h | h
  · rw [cmpI_lt h]
    simp [firstNZ, h]
  · rw [h, cmpI_eq]
    rcases Int.lt_trichotomy x.hi y.hi with h2 | h2 | h2
    · rw [cmpI_lt h2]; simp [firstNZ, h2]
    · rw [h2, cmpI_eq]; simp [firstNZ]
    · rw [cmpI_gt h2]; simp [firstNZ]; omega
  · rw [cmpI_gt h]
    simp [firstNZ]; omega
theorem swoS : SWO (ltOf cmpS) where
  irrefl x := by rw [ltS]; simp
  trans x y z h1 h2 := by rw [ltS] at *; simp at *; omega
  ntrans x y z h1 h2 := by rw [ltS] at *; simp at *; omega

def scells (L : List SpanV) : List Value := L.flatMap SpanV.enc
theorem scell {L : List SpanV} {k i : Nat} {x : SpanV} {v : Value} (hr : L[k]? = some x) (hv : x.enc[i]? = some v) : (scells L)[k * 2 + i]? = some v := flat_get SpanV.enc 2 span_len L k i x v hr hv
def SortPost (L : List SpanV) (v : Value) (base : Nat) (w : World) (e : Ending) (w' : World) : Prop :=
  e = .returned (.tuple #[]) ∧ ∃ L' : List SpanV, L'.Perm L ∧ L'.Pairwise (fun x y => x.lo ≤ y.lo) ∧ Rd w' w'.heap.size 2 v L'.length (scells L') ∧ ∀ B, B ≤ base → B ≤ w.heap.size → RowKit.Below B w w'

theorem sortSpan_any (L : List SpanV) (v : Value) (base : Nat) (w : World) (hown : w.ownsRow base 24 2 v L.length (scells L)) (hlen : L.length < 4611686018427387904) :
    Calls Tryd.prog 43 #[v, .func (.func 44) #[] #[]] w fun e w' => SortPost L v base w e w' := by
  rcases Nat.eq_zero_or_pos L.length with h0 | h0
  · obtain rfl : L = [] := List.eq_nil_of_length_eq_zero h0
    obtain ⟨A, c, rfl, _⟩ := owns_form hown
    refine (AnyF.slices_SortFunc_none Tryd.sortSpan A c (.func (.func 44) #[] #[]) w).mono fun e w' ⟨he, hw⟩ => ⟨he, [], List.Perm.refl _, List.Pairwise.nil, ?_, fun B _ _ => ?_⟩
    · subst hw; exact Rd.of_own hown
    · subst hw; exact RowKit.Below.refl _ _
  · obtain ⟨A, c, rfl, hA⟩ := owns_form hown
    obtain ⟨g, rfl⟩ := hA h0
    have hg := hown.lt g rfl
    have hH : HoldsK SpanV.enc 2 w g 0 L.toArray := holdsK_of span_len (fun j u hu => by
      have := hown.cells (g := g) rfl j u hu
      have e : (⟨g, 0, none⟩ : Addr).add j = ⟨g, 0 + j, none⟩ := by simp [Addr.add]; omega
      rw [← e]; exact this) (fun j => hown.frozenAt j)
    have hcon := AnyQ.slices_SortFunc Tryd.sortSpan 2 Tryd.isAgg24 Tryd.sizeOf24 SpanV.enc span_len (fun x v hv => by simp [SpanV.enc] at hv; rcases hv with rfl | rfl <;> rfl) cmpS swoS 44 #[] g 0 c L.toArray w (enters_of Tryd.func44 (by kernel_rfl) rfl) (fun _ _ _ _ x y => formClos_any x y _) hH hg.2 (by simpa using hlen)
    rw [List.size_toArray] at hcon
    change Calls Tryd.prog 43 _ _ _ at hcon
    refine hcon.mono ?_
    rintro e w' ⟨he, d', n, os, hp, hs, hw⟩
    have hsz : d'.size = L.length := by simpa using hp.1
    subst hw
    have hK := holdsK_sortWorldK_c (enc := SpanV.enc) (k := 2) (w := w) (blk := g) (off := 0) L.toArray d' n os hH hg.2 (by simpa using hsz)
    refine ⟨he, d'.toList, ?_, ?_, ⟨_, c, ?_, ?_, ?_, fun _ => ⟨g, 0, rfl, ?_, fun j u hu => ?_⟩⟩, fun B hB hB2 => below_sortWorldK (by omega) hB2⟩
    · have := hp.2.2
      rw [← hsz] at this
      have e1 : (d'.extract 0 d'.size).toList = d'.toList := by simp
      have e2 : (L.toArray.extract 0 d'.size).toList = L := by rw [hsz]; simp
      rw [e1, e2] at this
      exact this
    · rw [List.pairwise_iff_getElem]
      intro i j hi hj hij
      have h1 := hs i j (Nat.zero_le _) hij (by simpa [hsz] using hj)
      rw [ltS] at h1
      have e1 : d'[i]! = d'.toList[i] := by
        have : i < d'.size := by simpa using hi
        simp [this]
      have e2 : d'[j]! = d'.toList[j] := by
        have : j < d'.size := by simpa using hj
        simp [this]
      rw [e1, e2] at h1
      simp at h1
      simp
      omega
    · have e1 : d'.toList.length = L.length := by simpa using hsz
      rw [e1]
    · have := hown
      obtain ⟨_, hq⟩ := this
      rcases hq with ⟨h1, _⟩ | ⟨g', cap, cur, h1, _, _, h2, _⟩
      · cases h1
      · injection h1 with _ _ h1
        rw [Array.length_toList, hsz, h1]
        exact h2
    · exact flat_len SpanV.enc 2 span_len _
    · have := size_sortWorldK_c (enc := SpanV.enc) (k := 2) (w := w) (blk := g) (off := 0) n d' os
      omega
    · exact cells_of_holdsK span_len hK j u hu

end Go.Proofs.YtakkgamhceignaaDoor

/-
  The walk of spans.Form.
-/
namespace Go.Proofs.YtakkgamhceignaaDoor
open Go Go.RowKit Go.Lib Go.Sort

theorem Tryd.infoSpan : (Tryd.prog.info? 24).map (fun i => (i.zero, i.size, i.bytes)) = some (some (.agg #[.int .u32 0, .int .u32 0]), 2, 8) := by kernel_rfl
theorem below_drew1 {B : Nat} {a w : World} (h : Below B a w) : Below B a w.drew := ⟨h.os, h.tape, h.output, h.size, h.block⟩
/-- A new list of spans is handed back; nothing that was there has turned. -/
def SetRes (R : List SpanV) (w : World) (e : Ending) (w' : World) : Prop :=
  ∃ v, e = .returned v ∧ w'.ownsRow w.heap.size 24 2 v R.length (scells R) ∧ Below w.heap.size w w'
theorem scells_one (L : List SpanV) : ∀ u ∈ scells L, u.oneCell' = true := by
  intro u hu
  obtain ⟨r, _, hr⟩ := List.mem_flatMap.1 hu
  simp only [SpanV.enc, List.mem_cons, List.not_mem_nil, or_false] at hr
  rcases hr with rfl | rfl <;> rfl
theorem enc_one (s : SpanV) : ∀ u ∈ s.enc, u.oneCell' = true := by
  intro u hu
  simp only [SpanV.enc, List.mem_cons, List.not_mem_nil, or_false] at hu
  rcases hu with rfl | rfl <;> rfl
theorem scells_len (L : List SpanV) : (scells L).length = L.length * 2 := flat_len SpanV.enc 2 span_len L
theorem scells_append (A B : List SpanV) : scells (A ++ B) = scells A ++ scells B := by simp [scells]
theorem scells_snoc (A : List SpanV) (s : SpanV) : scells (A ++ [s]) = scells A ++ s.enc := by simp [scells]
theorem filter_succ {L : List SpanV} {j : Nat} {s : SpanV} (h : L[j]? = some s) : (L.take (j + 1)).filter okS = (L.take j).filter okS ++ (if s.lo ≤ s.hi then [s] else []) := by
  rw [List.take_add_one, h, List.filter_append]
  congr 1
  by_cases hs : s.lo ≤ s.hi <;> simp [okS, hs]
theorem filter_take_len (L : List SpanV) (j : Nat) : ((L.take j).filter okS).length ≤ j := by
  have := List.length_filter_le okS (L.take j)
  simp at this; omega
theorem scells_set {A : List SpanV} {t y : SpanV} (h : y.lo = t.lo) : (scells (A ++ [t])).set (A.length * 2 + 1) (.int .u32 y.hi) = scells (A ++ [y]) := by
  rw [scells_snoc, scells_snoc, List.set_append_right _ _ (by rw [scells_len]; omega), scells_len, show A.length * 2 + 1 - A.length * 2 = 1 by omega]
  show scells A ++ [.int .u32 t.lo, .int .u32 y.hi] = scells A ++ [.int .u32 y.lo, .int .u32 y.hi]
  rw [h]

set_option maxRecDepth 100000 in
set_option maxHeartbeats 4000000 in
theorem form_any (L : List SpanV) (vl : Value) (w : World) (hl : Rd w w.heap.size 2 vl L.length (scells L)) (hlen : L.length ≤ 1099511627776) :
    Calls Tryd.prog 16 #[vl] w (SetRes (formOf L) w) := by
  obtain ⟨i0, hi, hz0, hz1, hz2⟩ := info_parts Tryd.infoSpan
  obtain ⟨A0, c0, rfl, hc0⟩ := hl.form
  have HL := Lib.hid hl
  clear hl
  go_enter Tryd.func16, Tryd.ntmps16
  go_wp2
  go_loopw [3, 12] (fun v i wr => ∃ j : Nat, i = .int .i64 j ∧ j ≤ L.length ∧ wr.ownsRow w.heap.size 24 2 v ((L.take j).filter okS).length (scells ((L.take j).filter okS)) ∧ Below w.heap.size w wr) (fun _ i _ => L.length - (intOf i).toNat)
  case atStart => exact ⟨0, rfl, by omega, World.ownsRow_nil _ _ _ _, Below.refl _ _⟩
  case round =>
    obtain ⟨j, rfl, hj, hown, hnx⟩ := hrel
    by_cases hlt : j < L.length
    · have hI : (j : Int) < (L.length : Int) := by omega
      obtain ⟨s, hs⟩ : ∃ s, L[j]? = some s := ⟨_, List.getElem?_eq_getElem hlt⟩
      obtain ⟨b, off, c', hv, _, hbB, hcell⟩ := (HL.out.below hnx).posAt (by omega)
      injection hv with hv1 _ hv3
      subst hv1 hv3
      have f0 : wr.cell? ⟨b, off + j * 2, none⟩ = some (.int .u32 s.lo) := hcell j 0 _ (scell hs rfl)
      have f1 : wr.cell? ⟨b, off + j * 2 + 1, none⟩ = some (.int .u32 s.hi) := hcell j 1 _ (scell hs rfl)
      have hfl := filter_take_len L j
      have hsz := hnx.size
      clear hcell
      have hstep := filter_succ hs
      have hbox := below1 wr (.cells #[.int .u32 s.lo, .int .u32 s.hi] 24)
      by_cases hok : s.lo ≤ s.hi
      · rw [if_pos hok] at hstep
        go_wp2_with (at_builtin; refine wpList_push rfl _ _ 25 rfl 24 i0 _ 2 8 Tryd.underlying25 hi hz0 hz1 hz2 rfl (by decide) (by decide) [.int .u32 s.lo, .int .u32 s.hi] rfl rfl (by simp) (hown.alloc _) rfl (enc_one s) (by omega) (by simp; omega) (hnx.alloc hsz _) (Nat.le_refl _) ?_; intro v2 w2 hown2 hb2)
        refine ⟨⟨j + 1, rfl, by omega, ?_, hb2⟩, by simp only [intOf]; omega⟩
        rw [hstep, scells_snoc, List.length_append]
        exact hown2
      · rw [if_neg hok, List.append_nil] at hstep
        go_wp2
        exact ⟨⟨j + 1, rfl, by omega, by rw [hstep]; exact hown.alloc _, hnx.alloc hsz _⟩, by simp only [intOf]; omega⟩
    · have hI : ¬ (j : Int) < (L.length : Int) := by omega
      obtain rfl : j = L.length := by omega
      rw [List.take_length] at hown
      have hfl := List.length_filter_le okS L
      have hsz := hnx.size
      go_wp2_with fail
      refine (sortSpan_any _ _ _ _ hown (by omega)).mono ?_
      rintro e w1 ⟨rfl, L', hperm, hpw, hR, hbel⟩
      have hb1 : Below w.heap.size w w1 := hnx.trans (hbel _ (Nat.le_refl _) hsz)
      have hlen' : L'.length ≤ L.length := by rw [hperm.length_eq]; exact hfl
      have hF := formOf_eq hperm hpw
      have hml := mfold_len L'
      have hsz1 := hb1.size
      obtain ⟨A2, c2, rfl, hc2⟩ := hR.form
      have HF := Lib.hid hF
      have HR := Lib.hid hR
      have HB1 := Lib.hid hb1
      have HML := Lib.hid hml
      clear hown hnx hfl hperm hpw hbel hF hb1 hml hR
      go_wp2
      go_loopw [6, 30] (fun v i wr => ∃ j : Nat, i = .int .i64 j ∧ j ≤ L'.length ∧ wr.ownsRow w1.heap.size 24 2 v (mfold (L'.take j)).length (scells (mfold (L'.take j))) ∧ Below w1.heap.size w1 wr) (fun _ i _ => L'.length - (intOf i).toNat)
      case atStart => exact ⟨0, rfl, by omega, World.ownsRow_nil _ _ _ _, Below.refl _ _⟩
      case round =>
        obtain ⟨j, rfl, hj, hown, hnx⟩ := hrel
        have hsz := hnx.size
        by_cases hlt : j < L'.length
        · have hI : (j : Int) < (L'.length : Int) := by omega
          obtain ⟨s, hs⟩ : ∃ s, L'[j]? = some s := ⟨_, List.getElem?_eq_getElem hlt⟩
          obtain ⟨b, off, c', hv, _, hbB, hcell⟩ := (HR.out.below hnx).posAt (by omega)
          injection hv with hv1 _ hv3
          subst hv1 hv3
          have f0 : wr.cell? ⟨b, off + j * 2, none⟩ = some (.int .u32 s.lo) := hcell j 0 _ (scell hs rfl)
          have f1 : wr.cell? ⟨b, off + j * 2 + 1, none⟩ = some (.int .u32 s.hi) := hcell j 1 _ (scell hs rfl)
          clear hcell
          have hstep := mfold_succ hs
          have hOl := HML.out j
          generalize mfold (L'.take j) = O at *
          have hHS := Lib.hid hstep
          clear hstep hs
          have hownA := hown.alloc (.cells #[.int .u32 s.lo, .int .u32 s.hi] 24)
          have hnxA := hnx.alloc hsz (.cells #[.int .u32 s.lo, .int .u32 s.hi] 24)
          have kb := blk1 wr (.cells #[.int .u32 s.lo, .int .u32 s.hi] 24)
          have hszA : w1.heap.size ≤ (wr.alloc (.cells #[.int .u32 s.lo, .int .u32 s.hi] 24)).heap.size := by simp; omega
          have hlo := s.hlo
          have hhi := s.hhi
          rcases snoc_cases O with rfl | ⟨A, t, rfl⟩
          · obtain ⟨A3, c3, rfl, _⟩ := owns_form hown
            have HO := Lib.hid hownA
            have HN := Lib.hid hnxA
            have HK := Lib.hid kb
            obtain ⟨x0, x1, _, _⟩ := two_cells kb
            clear hown hnx hownA hnxA kb
            go_wp2
            refine wp_region_quiet_below (by kernel_rfl) (by kernel_rfl) ?_
            repeat (first | go_big_quiet_step (fail) | quiet_step (fail))
            refine wpQuiet_nil ?_
            intro _ hw'
            obtain ⟨⟨nq, osq⟩, hw''⟩ := hw'
            subst hw''
            have hq := below_regrown (wr.alloc (.cells #[.int .u32 s.lo, .int .u32 s.hi] 24)) nq osq
            have own1 := owns_kept_none HO.out (only_of_below hq none)
            have nx1 := HN.out.trans (hq.mono hszA)
            have sz1 := nx1.size
            obtain ⟨y0, y1, _, _⟩ := two_cells (blk_below hq HK.out)
            clear x0 x1 HO HN HK f0 f1
            generalize grow (redrawn (wr.alloc (.cells #[.int .u32 s.lo, .int .u32 s.hi] 24)) nq) osq = W1 at *
            clear hq
            go_wp2_with (at_builtin; refine wpList_push rfl _ _ 25 rfl 24 i0 _ 2 8 Tryd.underlying25 hi hz0 hz1 hz2 rfl (by decide) (by decide) [.int .u32 s.lo, .int .u32 s.hi] rfl rfl (by simp) own1 rfl (enc_one s) (by simp) (by omega) nx1 (Nat.le_refl _) ?_; intro v2 w2 hown2 hb2)
            refine ⟨⟨j + 1, by go_num, by omega, ?_, hb2⟩, by simp only [intOf]; omega⟩
            rw [hHS.out, mstep_nil]
            exact hown2
          · have hl1 : (A ++ [t]).length = A.length + 1 := by simp
            rw [hl1] at hown hownA hOl
            obtain ⟨A3, c3, rfl, hA3⟩ := owns_form hown
            obtain ⟨g, rfl⟩ := hA3 (by omega)
            have e1 : (wr.alloc (.cells #[.int .u32 s.lo, .int .u32 s.hi] 24)).cell? ⟨g, A.length * 2 + 1, none⟩ = some (.int .u32 t.hi) := (hownA.cellAt (A.length * 2 + 1) (by omega)).trans (scell (L := A ++ [t]) (k := A.length) (i := 1) (x := t) (by simp) rfl)
            have HO := Lib.hid hownA
            have HN := Lib.hid hnxA
            have HK := Lib.hid kb
            obtain ⟨x0, x1, _, _⟩ := two_cells kb
            have F0 := cell_regrown x0
            have F1 := cell_regrown x1
            have F2 := cell_regrown e1
            have hthi := t.hhi
            clear hown hnx hownA hnxA kb
            have hm : (t.hi == 4294967295) = true ∨ ((t.hi == 4294967295) = false ∧ (t.hi + 1) % 4294967296 = t.hi + 1 ∧ decide (s.lo ≤ t.hi + 1) = true) ∨ ((t.hi == 4294967295) = false ∧ (t.hi + 1) % 4294967296 = t.hi + 1 ∧ decide (s.lo ≤ t.hi + 1) = false) := by
              by_cases h1 : t.hi = 4294967295
              · exact .inl (by simp [h1])
              · by_cases h2 : s.lo ≤ t.hi + 1
                · exact .inr (.inl ⟨by simp [h1], by omega, by simp [h2]⟩)
                · exact .inr (.inr ⟨by simp [h1], by omega, by simp; omega⟩)
            rcases hm with hm1 | ⟨hm1, hm2, hm3⟩ | ⟨hm1, hm2, hm3⟩
            · have hmg : s.lo ≤ t.hi + 1 := by
                have := eq_of_beq hm1
                omega
              have HM := Lib.hid hmg
              clear hmg
              go_wp2
              refine wp_region_quiet_below (by kernel_rfl) (by kernel_rfl) ?_
              repeat (first | go_big_quiet_step (fail) | quiet_step (fail))
              refine wpQuiet_nil ?_
              intro _ hw'
              obtain ⟨⟨nq, osq⟩, hw''⟩ := hw'
              subst hw''
              have hq := below_regrown (wr.alloc (.cells #[.int .u32 s.lo, .int .u32 s.hi] 24)) nq osq
              have own1 := owns_kept_none HO.out (only_of_below hq none)
              have nx1 := HN.out.trans (hq.mono hszA)
              have sz1 := nx1.size
              have kb1 := blk_below hq HK.out
              obtain ⟨y0, y1, _, _⟩ := two_cells kb1
              clear F0 F1 F2 x0 x1 e1 HO HN HK f0 f1
              generalize grow (redrawn (wr.alloc (.cells #[.int .u32 s.lo, .int .u32 s.hi] 24)) nq) osq = W1 at *
              clear hq
              have z1 : W1.cell? ⟨g, A.length * 2 + 1, none⟩ = some (.int .u32 t.hi) := (own1.cellAt (A.length * 2 + 1) (by omega)).trans (scell (L := A ++ [t]) (k := A.length) (i := 1) (x := t) (by simp) rfl)
              have z2 := own1.frozenAt (A.length * 2 + 1)
              have hgB := (own1.lt g rfl).1
              have hi1 : (0 : Int) ≤ (A.length : Int) := by omega
              have hi2 : (A.length : Int) < (A.length : Int) + 1 := by omega
              have hi3 : (A.length : Int) ≤ 9223372036854775807 := by omega
              have hi4 : IntKind.i64.wrap (A.length : Int) = (A.length : Int) := by rw [IntKind.wrap_i64]; omega
              go_wp2
              go_still_tail 14, (by kernel_rfl)
              have own2 := owns_kept_none own1 (only_drew (World.grownBy.refl W1 none))
              have nx2 := below_drew1 nx1
              have z3 : W1.drew.cell? ⟨g, A.length * 2 + 1, none⟩ = some (.int .u32 t.hi) := z1
              have z4 : W1.drew.frozen? ⟨g, A.length * 2 + 1, none⟩ = false := z2
              clear own1 nx1 z1 z2 kb1 y0 y1 sz1
              change wpList _ _ _ _ _ W1.drew
              generalize W1.drew = W2 at *
              go_wp2
              have s1 := (own2.stored (A.length * 2 + 1) (.int .u32 (max t.hi s.hi))).1
              rw [show (scells (A ++ [t])).set (A.length * 2 + 1) (.int .u32 (max t.hi s.hi)) = scells (A ++ [t.reach s]) from scells_set (A := A) (t := t) (y := t.reach s) rfl] at s1
              refine ⟨⟨j + 1, by go_num, by omega, ?_, nx2.setCell (p := ⟨g, A.length * 2 + 1, none⟩) hgB _⟩, by simp only [intOf]; omega⟩
              rw [hHS.out, mstep_in HM.out, List.length_append]
              exact s1
            · have hmg : s.lo ≤ t.hi + 1 := of_decide_eq_true hm3
              have HM := Lib.hid hmg
              clear hmg
              go_wp2
              refine wp_region_quiet_below (by kernel_rfl) (by kernel_rfl) ?_
              repeat (first | go_big_quiet_step (fail) | quiet_step (fail))
              refine wpQuiet_nil ?_
              intro _ hw'
              obtain ⟨⟨nq, osq⟩, hw''⟩ := hw'
              subst hw''
              have hq := below_regrown (wr.alloc (.cells #[.int .u32 s.lo, .int .u32 s.hi] 24)) nq osq
              have own1 := owns_kept_none HO.out (only_of_below hq none)
              have nx1 := HN.out.trans (hq.mono hszA)
              have sz1 := nx1.size
              have kb1 := blk_below hq HK.out
              obtain ⟨y0, y1, _, _⟩ := two_cells kb1
              clear F0 F1 F2 x0 x1 e1 HO HN HK f0 f1
              generalize grow (redrawn (wr.alloc (.cells #[.int .u32 s.lo, .int .u32 s.hi] 24)) nq) osq = W1 at *
              clear hq
              have z1 : W1.cell? ⟨g, A.length * 2 + 1, none⟩ = some (.int .u32 t.hi) := (own1.cellAt (A.length * 2 + 1) (by omega)).trans (scell (L := A ++ [t]) (k := A.length) (i := 1) (x := t) (by simp) rfl)
              have z2 := own1.frozenAt (A.length * 2 + 1)
              have hgB := (own1.lt g rfl).1
              have hi1 : (0 : Int) ≤ (A.length : Int) := by omega
              have hi2 : (A.length : Int) < (A.length : Int) + 1 := by omega
              have hi3 : (A.length : Int) ≤ 9223372036854775807 := by omega
              have hi4 : IntKind.i64.wrap (A.length : Int) = (A.length : Int) := by rw [IntKind.wrap_i64]; omega
              go_wp2
              go_still_tail 14, (by kernel_rfl)
              have own2 := owns_kept_none own1 (only_drew (World.grownBy.refl W1 none))
              have nx2 := below_drew1 nx1
              have z3 : W1.drew.cell? ⟨g, A.length * 2 + 1, none⟩ = some (.int .u32 t.hi) := z1
              have z4 : W1.drew.frozen? ⟨g, A.length * 2 + 1, none⟩ = false := z2
              clear own1 nx1 z1 z2 kb1 y0 y1 sz1
              change wpList _ _ _ _ _ W1.drew
              generalize W1.drew = W2 at *
              go_wp2
              have s1 := (own2.stored (A.length * 2 + 1) (.int .u32 (max t.hi s.hi))).1
              rw [show (scells (A ++ [t])).set (A.length * 2 + 1) (.int .u32 (max t.hi s.hi)) = scells (A ++ [t.reach s]) from scells_set (A := A) (t := t) (y := t.reach s) rfl] at s1
              refine ⟨⟨j + 1, by go_num, by omega, ?_, nx2.setCell (p := ⟨g, A.length * 2 + 1, none⟩) hgB _⟩, by simp only [intOf]; omega⟩
              rw [hHS.out, mstep_in HM.out, List.length_append]
              exact s1
            · have hmg : ¬ s.lo ≤ t.hi + 1 := of_decide_eq_false hm3
              have HM := Lib.hid hmg
              clear hmg
              go_wp2
              refine wp_region_quiet_below (by kernel_rfl) (by kernel_rfl) ?_
              repeat (first | go_big_quiet_step (fail) | quiet_step (fail))
              refine wpQuiet_nil ?_
              intro _ hw'
              obtain ⟨⟨nq, osq⟩, hw''⟩ := hw'
              subst hw''
              have hq := below_regrown (wr.alloc (.cells #[.int .u32 s.lo, .int .u32 s.hi] 24)) nq osq
              have own1 := owns_kept_none HO.out (only_of_below hq none)
              have nx1 := HN.out.trans (hq.mono hszA)
              have sz1 := nx1.size
              have kb1 := blk_below hq HK.out
              obtain ⟨y0, y1, _, _⟩ := two_cells kb1
              clear F0 F1 F2 x0 x1 e1 HO HN HK f0 f1
              generalize grow (redrawn (wr.alloc (.cells #[.int .u32 s.lo, .int .u32 s.hi] 24)) nq) osq = W1 at *
              clear hq
              go_wp2_with (at_builtin; refine wpList_push rfl _ _ 25 rfl 24 i0 _ 2 8 Tryd.underlying25 hi hz0 hz1 hz2 rfl (by decide) (by decide) [.int .u32 s.lo, .int .u32 s.hi] rfl rfl (by simp) own1 rfl (enc_one s) (by omega) (by omega) nx1 (Nat.le_refl _) ?_; intro v2 w2 hown2 hb2)
              refine ⟨⟨j + 1, by go_num, by omega, ?_, hb2⟩, by simp only [intOf]; omega⟩
              rw [hHS.out, mstep_new (by have := HM.out; omega), scells_snoc (A ++ [t]), List.length_append, hl1]
              exact hown2
        · obtain rfl : j = L'.length := by omega
          rw [List.take_length] at hown
          go_wp2
          go_ret
          refine ⟨_, rfl, ?_, HB1.out.trans (hnx.mono hsz1)⟩
          rw [HF.out.1]
          exact owns_base hown hsz1

end Go.Proofs.YtakkgamhceignaaDoor
