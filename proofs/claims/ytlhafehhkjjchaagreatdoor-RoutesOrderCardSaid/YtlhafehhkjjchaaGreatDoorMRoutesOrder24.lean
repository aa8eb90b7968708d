/-
  Joined texts: Rt6.
-/
import Derived.Test.YtlhafehhkjjchaaGreatDoorMRoutesOrder20
import Derived.Test.YtlhafehhkjjchaaGreatDoorMRoutesOrder23
import Derived.Deep.DeepCutAuto
import Derived.Test.YtlhafehhkjjchaaGreatDoorMRoutesOrder4
/-
  The walk of routes.Parse (written by wip/gen/genrt6.py).
-/
namespace Go.Proofs.YtlhafehhkjjchaaGreatDoor
open Go Go.RowKit Go.Lib Go.Sort

theorem pieces_cnt (c : UInt8) : ∀ (l : List UInt8), (pieces c l).length ≤ l.length + 1
  | [] => by simp [pieces]
  | x :: r => by
    have h := pieces_cnt c r
    rw [pieces]
    split
    · simp; omega
    · simp; omega
/-- The words of where routes come from, as the program has them. -/
def fromsB : List ByteArray := fromsL.map fun l => ⟨l.toArray⟩
theorem idx_list (x : ByteArray) : ∀ (zs : List (List UInt8)) (i : Nat), Lib.idxFromS (zs.map fun l => ⟨l.toArray⟩) x i = match zs.idxOf? x.data.toList with | some k => ((i + k : Nat) : Int) | none => -1
  | [], i => rfl
  | z :: zs, i => by
    rw [List.map_cons, Lib.idxFromS, List.idxOf?_cons]
    by_cases h : z = x.data.toList
    · have h1 : (⟨z.toArray⟩ : ByteArray) = x := by rw [h]
      rw [if_pos h1]
      simp [h]
    · have h1 : ¬ (⟨z.toArray⟩ : ByteArray) = x := fun e => h (by rw [← e])
      rw [if_neg h1, idx_list x zs (i + 1)]
      have h2 : (z == x.data.toList) = false := by simpa using h
      rw [h2]
      cases zs.idxOf? x.data.toList with
      | none => rfl
      | some k => simp only [Bool.false_eq_true, if_false, Option.map_some]; congr 1; omega
theorem max_from (x : ByteArray) : max 0 (Lib.idxOfS fromsB x) = fromI x.data.toList := by
  unfold Lib.idxOfS fromsB fromI
  rw [idx_list]
  cases h : fromsL.idxOf? x.data.toList with
  | none => decide
  | some k => exact (by omega : max (0 : Int) ((0 + k : Nat) : Int) = ((k : Nat) : Int))
theorem froms_cells {V : World} {g : Nat} (h : V.heap[g]? = some (.cells fromsBlk 9 (0, 0))) : ∀ j, j < fromsB.length → V.cell? ⟨g, 0 + j, none⟩ = some (.string (fromsB.getD j ByteArray.empty)) := by
  intro j hj
  rw [Nat.zero_add, cell_of_row V g j fromsBlk 9 (0, 0) h]
  have hj9 : j < 9 := hj
  rcases (by omega : j = 0 ∨ j = 1 ∨ j = 2 ∨ j = 3 ∨ j = 4 ∨ j = 5 ∨ j = 6 ∨ j = 7 ∨ j = 8) with rfl | rfl | rfl | rfl | rfl | rfl | rfl | rfl | rfl <;> rfl
theorem index_from (x : ByteArray) (V : World) (g : Nat) (h : V.heap[g]? = some (.cells fromsBlk 9 (0, 0))) :
    Calls Tryz.prog 33 #[.slice (some ⟨g, 0, none⟩) 9 9, .string x] V fun e V' => e = .returned (.int .i64 (Lib.idxOfS fromsB x)) ∧ V' = V := by
  have := Tryz.slices_Index_string g 0 9 9 fromsB x V (Nat.le_refl _) (by decide) (froms_cells h)
  rwa [show fromsB.take 9 = fromsB from rfl] at this
theorem idx_range (x : ByteArray) : -1 ≤ Lib.idxOfS fromsB x ∧ Lib.idxOfS fromsB x < 9 := by
  have h1 := max_from x
  have h2 := fromI_lt x.data.toList
  by_cases h : 0 ≤ Lib.idxOfS fromsB x
  · omega
  · have h3 : Lib.idxOfS fromsB x = -1 := by
      unfold Lib.idxOfS fromsB at h ⊢
      rw [idx_list] at h ⊢
      cases hk : fromsL.idxOf? x.data.toList with
      | none => rfl
      | some k => rw [hk] at h; exact absurd (by simp) h
    omega

/-- The hop that words begin with, and what is behind it; then the name. -/
def hopS (w : List (List UInt8)) : Int × List (List UInt8) := match w with
  | v :: x :: t => if v = viaW then (adV (parseB x), t) else (0, w)
  | _ => (0, w)
def nmS (w : List (List UInt8)) : List UInt8 × List (List UInt8) := match w with
  | v :: x :: t => if v = onW then (x, t) else ([], w)
  | _ => ([], w)
theorem restR_steps (w : List (List UInt8)) : restR w = ((hopS w).1, (nmS (hopS w).2).1, !(nmS (hopS w).2).2.isEmpty) := rfl
/-- Do words begin with a word and one more? -/
def begB (c : List UInt8) (R : List ByteArray) : Bool := match R with
  | v :: _ :: _ => decide (v.data.toList = c)
  | _ => false
theorem hop_of {R : List ByteArray} (h : begB viaW R = false) : hopS (R.map (·.data.toList)) = (0, R.map (·.data.toList)) := by
  match R, h with
  | [], _ => rfl
  | [_], _ => rfl
  | v :: x :: t, h => exact if_neg (of_decide_eq_false h)
theorem nm_of {R : List ByteArray} (h : begB onW R = false) : nmS (R.map (·.data.toList)) = ([], R.map (·.data.toList)) := by
  match R, h with
  | [], _ => rfl
  | [_], _ => rfl
  | v :: x :: t, h => exact if_neg (of_decide_eq_false h)
theorem beg_two {c : List UInt8} {R : List ByteArray} (h : begB c R = true) : ∃ v x t, R = v :: x :: t ∧ v.data.toList = c := by
  match R, h with
  | v :: x :: t, h => exact ⟨v, x, t, rfl, of_decide_eq_true h⟩
theorem hop_yes {v x : List UInt8} {t : List (List UInt8)} (h : v = viaW) : hopS (v :: x :: t) = (adV (parseB x), t) := if_pos h
theorem hop_no {v x : List UInt8} {t : List (List UInt8)} (h : ¬ v = viaW) : hopS (v :: x :: t) = (0, v :: x :: t) := if_neg h
theorem nm_yes {v x : List UInt8} {t : List (List UInt8)} (h : v = onW) : nmS (v :: x :: t) = (x, t) := if_pos h
theorem nm_no {v x : List UInt8} {t : List (List UInt8)} (h : ¬ v = onW) : nmS (v :: x :: t) = ([], v :: x :: t) := if_neg h

theorem qset0 {w : World} {g : Nat} {v0 v1 v2 v3 v4 v5 v6 v7 v8 u : Value} {t : TypeId} (h : w.heap[g]? = some (.cells #[v0, v1, v2, v3, v4, v5, v6, v7, v8] t (0, 0))) : (w.setCell ⟨g, 0, none⟩ u).heap[g]? = some (.cells #[u, v1, v2, v3, v4, v5, v6, v7, v8] t (0, 0)) := set_at h
theorem qset1 {w : World} {g : Nat} {v0 v1 v2 v3 v4 v5 v6 v7 v8 u : Value} {t : TypeId} (h : w.heap[g]? = some (.cells #[v0, v1, v2, v3, v4, v5, v6, v7, v8] t (0, 0))) : (w.setCell ⟨g, 1, none⟩ u).heap[g]? = some (.cells #[v0, u, v2, v3, v4, v5, v6, v7, v8] t (0, 0)) := set_at h
theorem qset2 {w : World} {g : Nat} {v0 v1 v2 v3 v4 v5 v6 v7 v8 u : Value} {t : TypeId} (h : w.heap[g]? = some (.cells #[v0, v1, v2, v3, v4, v5, v6, v7, v8] t (0, 0))) : (w.setCell ⟨g, 2, none⟩ u).heap[g]? = some (.cells #[v0, v1, u, v3, v4, v5, v6, v7, v8] t (0, 0)) := set_at h
theorem qset3 {w : World} {g : Nat} {v0 v1 v2 v3 v4 v5 v6 v7 v8 u : Value} {t : TypeId} (h : w.heap[g]? = some (.cells #[v0, v1, v2, v3, v4, v5, v6, v7, v8] t (0, 0))) : (w.setCell ⟨g, 3, none⟩ u).heap[g]? = some (.cells #[v0, v1, v2, u, v4, v5, v6, v7, v8] t (0, 0)) := set_at h
theorem qset4 {w : World} {g : Nat} {v0 v1 v2 v3 v4 v5 v6 v7 v8 u : Value} {t : TypeId} (h : w.heap[g]? = some (.cells #[v0, v1, v2, v3, v4, v5, v6, v7, v8] t (0, 0))) : (w.setCell ⟨g, 4, none⟩ u).heap[g]? = some (.cells #[v0, v1, v2, v3, u, v5, v6, v7, v8] t (0, 0)) := set_at h
theorem qset5 {w : World} {g : Nat} {v0 v1 v2 v3 v4 v5 v6 v7 v8 u : Value} {t : TypeId} (h : w.heap[g]? = some (.cells #[v0, v1, v2, v3, v4, v5, v6, v7, v8] t (0, 0))) : (w.setCell ⟨g, 5, none⟩ u).heap[g]? = some (.cells #[v0, v1, v2, v3, v4, u, v6, v7, v8] t (0, 0)) := set_at h
theorem qset6 {w : World} {g : Nat} {v0 v1 v2 v3 v4 v5 v6 v7 v8 u : Value} {t : TypeId} (h : w.heap[g]? = some (.cells #[v0, v1, v2, v3, v4, v5, v6, v7, v8] t (0, 0))) : (w.setCell ⟨g, 6, none⟩ u).heap[g]? = some (.cells #[v0, v1, v2, v3, v4, v5, u, v7, v8] t (0, 0)) := set_at h
theorem qset7 {w : World} {g : Nat} {v0 v1 v2 v3 v4 v5 v6 v7 v8 u : Value} {t : TypeId} (h : w.heap[g]? = some (.cells #[v0, v1, v2, v3, v4, v5, v6, v7, v8] t (0, 0))) : (w.setCell ⟨g, 7, none⟩ u).heap[g]? = some (.cells #[v0, v1, v2, v3, v4, v5, v6, u, v8] t (0, 0)) := set_at h
theorem qset8 {w : World} {g : Nat} {v0 v1 v2 v3 v4 v5 v6 v7 v8 u : Value} {t : TypeId} (h : w.heap[g]? = some (.cells #[v0, v1, v2, v3, v4, v5, v6, v7, v8] t (0, 0))) : (w.setCell ⟨g, 8, none⟩ u).heap[g]? = some (.cells #[v0, v1, v2, v3, v4, v5, v6, v7, u] t (0, 0)) := set_at h
theorem st9 {W V : World} {g : Nat} {u0 u1 u2 u3 u4 u5 u6 u7 u8 : Value} (h : Below W.heap.size W V) (hg : W.heap.size ≤ g) : Below W.heap.size W (((((((((V.setCell ⟨g, 0, none⟩ u0).setCell ⟨g, 1, none⟩ u1).setCell ⟨g, 2, none⟩ u2).setCell ⟨g, 3, none⟩ u3).setCell ⟨g, 4, none⟩ u4).setCell ⟨g, 5, none⟩ u5).setCell ⟨g, 6, none⟩ u6).setCell ⟨g, 7, none⟩ u7).setCell ⟨g, 8, none⟩ u8) := (((((((((h.setCell (p := ⟨g, 0, none⟩) hg u0).setCell (p := ⟨g, 1, none⟩) hg u1).setCell (p := ⟨g, 2, none⟩) hg u2).setCell (p := ⟨g, 3, none⟩) hg u3).setCell (p := ⟨g, 4, none⟩) hg u4).setCell (p := ⟨g, 5, none⟩) hg u5).setCell (p := ⟨g, 6, none⟩) hg u6).setCell (p := ⟨g, 7, none⟩) hg u7).setCell (p := ⟨g, 8, none⟩) hg u8)
theorem st9b {V : World} {g : Nat} {u0 u1 u2 u3 u4 u5 u6 u7 u8 v0 v1 v2 v3 v4 v5 v6 v7 v8 : Value} {t : TypeId} (h : V.heap[g]? = some (.cells #[v0, v1, v2, v3, v4, v5, v6, v7, v8] t (0, 0))) : (((((((((V.setCell ⟨g, 0, none⟩ u0).setCell ⟨g, 1, none⟩ u1).setCell ⟨g, 2, none⟩ u2).setCell ⟨g, 3, none⟩ u3).setCell ⟨g, 4, none⟩ u4).setCell ⟨g, 5, none⟩ u5).setCell ⟨g, 6, none⟩ u6).setCell ⟨g, 7, none⟩ u7).setCell ⟨g, 8, none⟩ u8).heap[g]? = some (.cells #[u0, u1, u2, u3, u4, u5, u6, u7, u8] t (0, 0)) := (qset8 (qset7 (qset6 (qset5 (qset4 (qset3 (qset2 (qset1 (qset0 h)))))))))
theorem fin9 {W V : World} {g : Nat} {u0 u1 u2 u3 u4 u5 u6 u7 u8 v0 v1 v2 v3 v4 v5 v6 v7 v8 : Value} {t : TypeId} (h : Below W.heap.size W V) (hq : V.heap[g]? = some (.cells #[v0, v1, v2, v3, v4, v5, v6, v7, v8] t (0, 0))) (hg : W.heap.size ≤ g) : ∃ g', Value.pointer (some ⟨g, 0, none⟩) = .pointer (some ⟨g', 0, none⟩) ∧ W.heap.size ≤ g' ∧ (((((((((V.setCell ⟨g, 0, none⟩ u0).setCell ⟨g, 1, none⟩ u1).setCell ⟨g, 2, none⟩ u2).setCell ⟨g, 3, none⟩ u3).setCell ⟨g, 4, none⟩ u4).setCell ⟨g, 5, none⟩ u5).setCell ⟨g, 6, none⟩ u6).setCell ⟨g, 7, none⟩ u7).setCell ⟨g, 8, none⟩ u8).heap[g']? = some (.cells #[u0, u1, u2, u3, u4, u5, u6, u7, u8] t (0, 0)) ∧ Below W.heap.size W (((((((((V.setCell ⟨g, 0, none⟩ u0).setCell ⟨g, 1, none⟩ u1).setCell ⟨g, 2, none⟩ u2).setCell ⟨g, 3, none⟩ u3).setCell ⟨g, 4, none⟩ u4).setCell ⟨g, 5, none⟩ u5).setCell ⟨g, 6, none⟩ u6).setCell ⟨g, 7, none⟩ u7).setCell ⟨g, 8, none⟩ u8) := ⟨_, rfl, hg, st9b hq, st9 h hg⟩
theorem keep6 {W V : World} {a b c d e f : Addr} {x y z x' y' z' : Value} (h0 : W.cell? a = some x) (h1 : W.cell? b = some y) (h2 : W.cell? c = some z) (h3 : W.cell? d = some x') (h4 : W.cell? e = some y') (h5 : W.cell? f = some z') (h : Below W.heap.size W V) : V.cell? a = some x ∧ V.cell? b = some y ∧ V.cell? c = some z ∧ V.cell? d = some x' ∧ V.cell? e = some y' ∧ V.cell? f = some z' ∧ Below W.heap.size W V := ⟨cell_kept h h0, cell_kept h h1, cell_kept h h2, cell_kept h h3, cell_kept h h4, cell_kept h h5, h⟩
theorem rt_blk {w : World} {g : Nat} {r : RtV} (h : w.heap[g]? = some (rtObj r)) : w.cell? ⟨g, 0, none⟩ = some (Value.int .u32 r.a) ∧ w.cell? ⟨g, 1, none⟩ = some (Value.int .i64 r.m) ∧ w.cell? ⟨g, 2, none⟩ = some (Value.int .u8 r.fr) ∧ w.cell? ⟨g, 3, none⟩ = some (Value.int .i64 r.di) ∧ w.cell? ⟨g, 4, none⟩ = some (Value.int .i64 r.me) ∧ w.cell? ⟨g, 5, none⟩ = some (Value.int .i64 r.ta) ∧ w.cell? ⟨g, 6, none⟩ = some (Value.string ⟨r.nm.toArray⟩) ∧ w.cell? ⟨g, 7, none⟩ = some (Value.int .u32 r.ho) ∧ w.cell? ⟨g, 8, none⟩ = some (Value.bool r.dc) := blk9 (t := 27) h
theorem results_t {fn : Func} {tmps : Array Value} {w : World} {g : Nat} {r : RtV} {e : Value} {t1 t3 : Nat} (hf : fn.results = #[.cell t1 27, .tmp t3]) (h1 : tmps.getD t1 undef = .pointer (some ⟨g, 0, none⟩)) (h3 : tmps.getD t3 undef = e)
    (k1 : w.heap[g]? = some (rtObj r)) :
    (results fn tmps).run Tryz.prog w = .ok (.tuple #[.agg #[.int .u32 r.a, .int .i64 r.m, .int .u8 r.fr, .int .i64 r.di, .int .i64 r.me, .int .i64 r.ta, .string ⟨r.nm.toArray⟩, .int .u32 r.ho, .bool r.dc], e]) w := by
  obtain ⟨c0, c1, c2, c3, c4, c5, c6, c7, c8⟩ := blk9 (t := 27) k1
  have h1' : tmps[t1]?.getD undef = .pointer (some ⟨g, 0, none⟩) := by simpa using h1
  have h3' : tmps[t3]?.getD undef = e := by simpa using h3
  simp [results, hf, h1', h3', go_sem, c0, c1, c2, c3, c4, c5, c6, c7, c8]
set_option maxRecDepth 100000 in
set_option maxHeartbeats 8000000 in
theorem rtParse_five (s : ByteArray) (x0 x1 x2 x3 x4 : ByteArray) (R : List ByteArray) (w : World) (hE : Env w) (hlim : s.size < 4294967281) (hP : pieces 32 s.data.toList = x0.data.toList :: x1.data.toList :: x2.data.toList :: x3.data.toList :: x4.data.toList :: R.map (·.data.toList)) (hS : Lib.splitB ⟨#[32]⟩ 0 (Lib.countB s ⟨#[32]⟩) s = x0 :: x1 :: x2 :: x3 :: x4 :: R) (N : Nat) (hN : Lib.countB s ⟨#[32]⟩ + 1 = N) (hNR : N = R.length + 5) (hl : ∀ x ∈ x0 :: x1 :: x2 :: x3 :: x4 :: R, x.size < 4294967281) (hrn : N ≤ 9223372036854775807) :
    Calls Tryz.prog 10 #[.string s] w fun e w' => e = .returned (.tuple #[.agg #[.int .u32 (roV s.data.toList).a, .int .i64 (roV s.data.toList).m, .int .u8 (roV s.data.toList).fr, .int .i64 (roV s.data.toList).di, .int .i64 (roV s.data.toList).me, .int .i64 (roV s.data.toList).ta, .string ⟨(roV s.data.toList).nm.toArray⟩, .int .u32 (roV s.data.toList).ho, .bool (roV s.data.toList).dc], .int .i64 (roE s.data.toList)]) ∧ Below w.heap.size w w' := by
  have hkz := heap_alloc_new w (rtObj default)
  have hb0 := below1 w (rtObj default)
  have hE0 := hE.below hb0
  obtain ⟨m, hm⟩ := hE0.len
  have hSp := Tryz.strings_Split s ⟨#[32]⟩ m (w.alloc (rtObj default)) (by omega) hm (by decide)
  rw [hS, hN] at hSp
  have HSp := Lib.hid hSp
  clear hSp hS hN hm
  have l0 := hl x0 (by simp)
  have l2 := hl x2 (by simp)
  have l3 := hl x3 (by simp)
  have l4 := hl x4 (by simp)
  have HP := Lib.hid hP
  have HL := Lib.hid hl
  clear hP hl
  have hge : ¬ (N : Int) < 5 := by omega
  have hba : 0 < N := by omega
  have hia : (0 : Int) < (N : Int) := by omega
  have hbb : 1 < N := by omega
  have hib : (1 : Int) < (N : Int) := by omega
  have hbc : 2 < N := by omega
  have hic : (2 : Int) < (N : Int) := by omega
  have hbd : 3 < N := by omega
  have hid : (3 : Int) < (N : Int) := by omega
  have hbe : 4 < N := by omega
  have hie : (4 : Int) < (N : Int) := by omega
  have HNR := Lib.hid hNR
  clear hNR
  go_enter Tryz.func10, Tryz.ntmps10
  go_wp2_with fail
  refine HSp.out.mono ?_
  rintro e w1 ⟨rfl, rfl⟩
  have hk1 := (Below.heap_alloc (w.alloc (rtObj default)) (.cells ((x0 :: x1 :: x2 :: x3 :: x4 :: R).map Value.string).toArray 9) _ (lt_of_block hkz)).trans hkz
  have hkL := heap_alloc_new (w.alloc (rtObj default)) (.cells ((x0 :: x1 :: x2 :: x3 :: x4 :: R).map Value.string).toArray 9)
  have hb1 := hb0.alloc hb0.size (.cells ((x0 :: x1 :: x2 :: x3 :: x4 :: R).map Value.string).toArray 9)
  have hE1 := hE.below hb1
  have hgL : w.heap.size ≠ (w.alloc (rtObj default)).heap.size := by simp
  clear HSp hE0 hkz hb0
  generalize (w.alloc (rtObj default)).heap.size = gL at *
  generalize (w.alloc (rtObj default)).alloc (.cells ((x0 :: x1 :: x2 :: x3 :: x4 :: R).map Value.string).toArray 9) = W at *
  have s0 := cells_str (k := 0) hkL rfl
  have HK1 := Lib.hid hk1
  have HKL := Lib.hid hkL
  clear hk1 hkL
  have K0 := Lib.hid (parsePrefix_any x0 W hE1 l0)
  go_wp2_with fail
  refine K0.out.mono ?_
  rintro e w2 ⟨rfl, hb⟩
  have hk2 := blk_below hb HK1.out
  have hkL2 := blk_below hb HKL.out
  have hb2 := hb1.trans (hb.mono hb1.size)
  have hkp := heap_alloc_new w2 (.cells #[.int .u32 (ppA x0.data.toList), .int .i64 (ppN x0.data.toList)] 25)
  have hk3 := blk_below (below1 w2 (.cells #[.int .u32 (ppA x0.data.toList), .int .i64 (ppN x0.data.toList)] 25)) hk2
  have hkL3 := blk_below (below1 w2 (.cells #[.int .u32 (ppA x0.data.toList), .int .i64 (ppN x0.data.toList)] 25)) hkL2
  have hb3 := hb2.alloc hb2.size (.cells #[.int .u32 (ppA x0.data.toList), .int .i64 (ppN x0.data.toList)] 25)
  have hE3 := hE.below hb3
  clear hb hk2 hkL2 hb2 HK1 HKL K0 hb1 hE1 s0
  go_upto_region 5 with fail
  generalize w2.alloc (.cells #[.int .u32 (ppA x0.data.toList), .int .i64 (ppN x0.data.toList)] 25) = W3 at *
  generalize w2.heap.size = gp at *
  have s1 := cells_str (k := 1) hkL3 rfl
  have s2 := cells_str (k := 2) hkL3 rfl
  have s3 := cells_str (k := 3) hkL3 rfl
  have s4 := cells_str (k := 4) hkL3 rfl
  obtain ⟨p0, p1, _, _⟩ := two_cells hkp
  have HK3 := Lib.hid hk3
  have HKL3 := Lib.hid hkL3
  clear hk3 hkL3 hkp
  have KF := Lib.hid (show ∀ V : World, Below W3.heap.size W3 V → Calls Tryz.prog 24 #[] V fun e V' => ∃ g, e = .returned (.slice (some ⟨g, 0, none⟩) 9 9) ∧ V'.heap[g]? = some (.cells fromsBlk 9 (0, 0)) ∧ Below W3.heap.size W3 V' ∧ Below V.heap.size V V' from fun V h => (froms_any V).mono fun e V' ⟨he, hv⟩ => ⟨_, he, by rw [hv]; exact heap_alloc_new V _, by rw [hv]; exact below_al h, by rw [hv]; exact below1 V _⟩)
  have KN := Lib.hid (show ∀ x : ByteArray, x.size < 4294967281 → ∀ V : World, Below W3.heap.size W3 V → Calls Tryz.prog 34 #[.string x] V fun e V' => e = .returned (.int .i64 (num31 x.data.toList)) ∧ Below W3.heap.size W3 V' ∧ Below V.heap.size V V' from fun x hx V h => (numR_any x hx V (hE3.below h)).mono fun e V' ⟨he, hb⟩ => ⟨he, below_call h hb, hb⟩)
  have ifr := idx_range x1
  have mfr := Lib.hid (max_from x1)
  have KI := Lib.hid (fun (V : World) (g : Nat) (h : V.heap[g]? = some (.cells fromsBlk 9 (0, 0))) => (index_from x1 V g h).mono (R' := fun e V' => e = .returned (.int .i64 (Lib.idxOfS fromsB x1)) ∧ Below V.heap.size V V') fun e V' hh => ⟨hh.1, by rw [hh.2]; exact Below.refl _ _⟩)
  generalize Lib.idxOfS fromsB x1 = ix at *
  go_cut [7] (fun sr wx => ∃ g : Nat, sr = .pointer (some ⟨g, 0, none⟩) ∧ W3.heap.size ≤ g ∧ wx.heap[g]? = some (.cells #[.int .u32 (ppA x0.data.toList), .int .i64 (ppN x0.data.toList), .int .u8 (max 0 ix), .int .i64 (num31 x2.data.toList), .int .i64 (num31 x3.data.toList), .int .i64 (num31 x4.data.toList), .string ⟨#[]⟩, .int .u32 0, .bool false] 27 (0, 0)) ∧ Below W3.heap.size W3 wx)
  case first =>
    clear HK3 HKL3 HP HL hb3 hE3 HNR
    have F1 := cell_regrown s1
    have F2 := cell_regrown s2
    have F3 := cell_regrown s3
    have F4 := cell_regrown s4
    have F5 := cell_regrown p0
    have F6 := cell_regrown p1
    refine wp_region_tree (plains (.fork 1 (.fork 5 (plains (.fork 11 (.fork 15 (.fork 19 (plains (.bar 21 (.bar 22 .done)) [20]) 21 (.bar 19 (plains (.bar 22 .done) [20]))) 21 (.bar 15 (.bar 19 (plains (.bar 22 .done) [20])))) 21 (.bar 11 (.bar 15 (.bar 19 (plains (.bar 22 .done) [20]))))) [6, 7]) 21 (.bar 5 (plains (.bar 11 (.bar 15 (.bar 19 (plains (.bar 22 .done) [20])))) [6, 7]))) 21 (.bar 1 (.bar 5 (plains (.bar 11 (.bar 15 (.bar 19 (plains (.bar 22 .done) [20])))) [6, 7])))) [0, 2, 3, 4, 8, 9, 10, 12, 13, 14, 16, 17, 18]) (by kernel_rfl) (by kernel_rfl) ?_
    have hv0 := below_drawn W3
    generalize { W3 with drawn := W3.drawn + 1 } = V0 at *
    refine tree_take [0, 2, 3, 4, 8, 9, 10, 12, 13, 14, 16, 17, 18] [_, _, _, _, _, _, _, _, _, _, _, _, _] rfl rfl ?_
    simp only [List.getElem_toArray, List.getElem_cons_zero, List.getElem_cons_succ]
    repeat (go_big_quiet_step (fail))
    refine wpQuiet_nil ?_
    refine tree_fork ?_ ?_
    · refine step_same rfl (by rfl) ?_
      simp only [List.getElem_toArray, List.getElem_cons_zero, List.getElem_cons_succ]
      go_simp
      refine (KF.out V0 hv0).mono ?_
      rintro e V1 ⟨gf, rfl, hF1, _, hb1⟩
      have hv1 := below_call hv0 hb1
      refine ⟨regrown_of_below hv1, ?_⟩
      refine tree_fork ?_ ?_
      · refine step_same rfl (by rfl) ?_
        simp only [List.getElem_toArray, List.getElem_cons_zero, List.getElem_cons_succ]
        go_simp
        refine (KI.out V1 gf hF1).mono ?_
        rintro e V2 ⟨rfl, hb2⟩
        have hv2 := below_call hv1 hb2
        have B_F2 := blk_below hb2 hF1
        refine ⟨regrown_of_below hv2, ?_⟩
        refine tree_take [6, 7] [_, _] rfl rfl ?_
        simp only [List.getElem_toArray, List.getElem_cons_zero, List.getElem_cons_succ]
        repeat (go_big_quiet_step (fail))
        refine wpQuiet_nil ?_
        refine tree_fork ?_ ?_
        · refine step_same rfl (by rfl) ?_
          simp only [List.getElem_toArray, List.getElem_cons_zero, List.getElem_cons_succ]
          go_simp
          refine (KN.out x2 (by with_reducible assumption) V2 hv2).mono ?_
          rintro e V3 ⟨rfl, _, hb3⟩
          have hv3 := below_call hv2 hb3
          have B_F3 := blk_below hb3 B_F2
          refine ⟨regrown_of_below hv3, ?_⟩
          refine tree_fork ?_ ?_
          · refine step_same rfl (by rfl) ?_
            simp only [List.getElem_toArray, List.getElem_cons_zero, List.getElem_cons_succ]
            go_simp
            refine (KN.out x3 (by with_reducible assumption) V3 hv3).mono ?_
            rintro e V4 ⟨rfl, _, hb4⟩
            have hv4 := below_call hv3 hb4
            have B_F4 := blk_below hb4 B_F3
            refine ⟨regrown_of_below hv4, ?_⟩
            refine tree_fork ?_ ?_
            · refine step_same rfl (by rfl) ?_
              simp only [List.getElem_toArray, List.getElem_cons_zero, List.getElem_cons_succ]
              go_simp
              refine (KN.out x4 (by with_reducible assumption) V4 hv4).mono ?_
              rintro e V5 ⟨rfl, _, hb5⟩
              have hv5 := below_call hv4 hb5
              have B_F5 := blk_below hb5 B_F4
              refine ⟨regrown_of_below hv5, ?_⟩
              refine tree_take [20] [_] rfl rfl ?_
              simp only [List.getElem_toArray, List.getElem_cons_zero, List.getElem_cons_succ]
              repeat (go_big_quiet_step (fail))
              refine wpQuiet_nil ?_
              refine tree_bar ?_
              refine step_same rfl (by rfl) ?_
              simp only [List.getElem_toArray, List.getElem_cons_zero, List.getElem_cons_succ]
              go_simp
              have hA6 := heap_alloc_new V5 (.cells #[.int .u32 0, .int .i64 0, .int .u8 0, .int .i64 0, .int .i64 0, .int .i64 0, .string ⟨#[]⟩, .int .u32 0, .bool false] 27)
              have hb6 := below1 V5 (.cells #[.int .u32 0, .int .i64 0, .int .u8 0, .int .i64 0, .int .i64 0, .int .i64 0, .string ⟨#[]⟩, .int .u32 0, .bool false] 27)
              have hv6 := below_call hv5 hb6
              have hg6 : W3.heap.size ≤ V5.heap.size := hv5.size
              have B_F6 := blk_below hb6 B_F5
              refine ⟨regrown_of_below hv6, ?_⟩
              generalize V5.alloc (.cells #[.int .u32 0, .int .i64 0, .int .u8 0, .int .i64 0, .int .i64 0, .int .i64 0, .string ⟨#[]⟩, .int .u32 0, .bool false] 27) = V6 at *
              generalize V5.heap.size = gA at *
              obtain ⟨n0, n1, n2, n3, n4, n5, n6, n7, n8⟩ := blk9 hA6
              have m0 := frozen_row hA6 0
              have m1 := frozen_row hA6 1
              have m2 := frozen_row hA6 2
              have m3 := frozen_row hA6 3
              have m4 := frozen_row hA6 4
              have m5 := frozen_row hA6 5
              have m6 := frozen_row hA6 6
              have m7 := frozen_row hA6 7
              have m8 := frozen_row hA6 8
              refine tree_bar ?_
              refine step_same rfl (by rfl) ?_
              simp only [List.getElem_toArray, List.getElem_cons_zero, List.getElem_cons_succ]
              go_simp
              refine ⟨regrown_of_below (st9 hv6 hg6), ?_⟩
              refine tree_end ?_
              go_wp2_with fail
              go_meet
              exact fin9 hv6 hA6 hg6
            · refine step_same rfl (by rfl) ?_
              simp only [List.getElem_toArray, List.getElem_cons_zero, List.getElem_cons_succ]
              go_simp
              have hA7 := heap_alloc_new V4 (.cells #[.int .u32 0, .int .i64 0, .int .u8 0, .int .i64 0, .int .i64 0, .int .i64 0, .string ⟨#[]⟩, .int .u32 0, .bool false] 27)
              have hb7 := below1 V4 (.cells #[.int .u32 0, .int .i64 0, .int .u8 0, .int .i64 0, .int .i64 0, .int .i64 0, .string ⟨#[]⟩, .int .u32 0, .bool false] 27)
              have hv7 := below_call hv4 hb7
              have hg7 : W3.heap.size ≤ V4.heap.size := hv4.size
              have B_F7 := blk_below hb7 B_F4
              refine ⟨regrown_of_below hv7, ?_⟩
              generalize V4.alloc (.cells #[.int .u32 0, .int .i64 0, .int .u8 0, .int .i64 0, .int .i64 0, .int .i64 0, .string ⟨#[]⟩, .int .u32 0, .bool false] 27) = V7 at *
              generalize V4.heap.size = gA at *
              refine tree_bar ?_
              refine step_same rfl (by rfl) ?_
              simp only [List.getElem_toArray, List.getElem_cons_zero, List.getElem_cons_succ]
              go_simp
              refine (KN.out x4 (by with_reducible assumption) V7 hv7).mono ?_
              rintro e V8 ⟨rfl, _, hb8⟩
              have hv8 := below_call hv7 hb8
              have hA8 := blk_below hb8 hA7
              have B_F8 := blk_below hb8 B_F7
              refine ⟨regrown_of_below hv8, ?_⟩
              refine tree_take [20] [_] rfl rfl ?_
              simp only [List.getElem_toArray, List.getElem_cons_zero, List.getElem_cons_succ]
              repeat (go_big_quiet_step (fail))
              refine wpQuiet_nil ?_
              obtain ⟨n0, n1, n2, n3, n4, n5, n6, n7, n8⟩ := blk9 hA8
              have m0 := frozen_row hA8 0
              have m1 := frozen_row hA8 1
              have m2 := frozen_row hA8 2
              have m3 := frozen_row hA8 3
              have m4 := frozen_row hA8 4
              have m5 := frozen_row hA8 5
              have m6 := frozen_row hA8 6
              have m7 := frozen_row hA8 7
              have m8 := frozen_row hA8 8
              refine tree_bar ?_
              refine step_same rfl (by rfl) ?_
              simp only [List.getElem_toArray, List.getElem_cons_zero, List.getElem_cons_succ]
              go_simp
              refine ⟨regrown_of_below (st9 hv8 hg7), ?_⟩
              refine tree_end ?_
              go_wp2_with fail
              go_meet
              exact fin9 hv8 hA8 hg7
          · refine step_same rfl (by rfl) ?_
            simp only [List.getElem_toArray, List.getElem_cons_zero, List.getElem_cons_succ]
            go_simp
            have hA9 := heap_alloc_new V3 (.cells #[.int .u32 0, .int .i64 0, .int .u8 0, .int .i64 0, .int .i64 0, .int .i64 0, .string ⟨#[]⟩, .int .u32 0, .bool false] 27)
            have hb9 := below1 V3 (.cells #[.int .u32 0, .int .i64 0, .int .u8 0, .int .i64 0, .int .i64 0, .int .i64 0, .string ⟨#[]⟩, .int .u32 0, .bool false] 27)
            have hv9 := below_call hv3 hb9
            have hg9 : W3.heap.size ≤ V3.heap.size := hv3.size
            have B_F9 := blk_below hb9 B_F3
            refine ⟨regrown_of_below hv9, ?_⟩
            generalize V3.alloc (.cells #[.int .u32 0, .int .i64 0, .int .u8 0, .int .i64 0, .int .i64 0, .int .i64 0, .string ⟨#[]⟩, .int .u32 0, .bool false] 27) = V9 at *
            generalize V3.heap.size = gA at *
            refine tree_bar ?_
            refine step_same rfl (by rfl) ?_
            simp only [List.getElem_toArray, List.getElem_cons_zero, List.getElem_cons_succ]
            go_simp
            refine (KN.out x3 (by with_reducible assumption) V9 hv9).mono ?_
            rintro e V10 ⟨rfl, _, hb10⟩
            have hv10 := below_call hv9 hb10
            have hA10 := blk_below hb10 hA9
            have B_F10 := blk_below hb10 B_F9
            refine ⟨regrown_of_below hv10, ?_⟩
            refine tree_bar ?_
            refine step_same rfl (by rfl) ?_
            simp only [List.getElem_toArray, List.getElem_cons_zero, List.getElem_cons_succ]
            go_simp
            refine (KN.out x4 (by with_reducible assumption) V10 hv10).mono ?_
            rintro e V11 ⟨rfl, _, hb11⟩
            have hv11 := below_call hv10 hb11
            have hA11 := blk_below hb11 hA10
            have B_F11 := blk_below hb11 B_F10
            refine ⟨regrown_of_below hv11, ?_⟩
            refine tree_take [20] [_] rfl rfl ?_
            simp only [List.getElem_toArray, List.getElem_cons_zero, List.getElem_cons_succ]
            repeat (go_big_quiet_step (fail))
            refine wpQuiet_nil ?_
            obtain ⟨n0, n1, n2, n3, n4, n5, n6, n7, n8⟩ := blk9 hA11
            have m0 := frozen_row hA11 0
            have m1 := frozen_row hA11 1
            have m2 := frozen_row hA11 2
            have m3 := frozen_row hA11 3
            have m4 := frozen_row hA11 4
            have m5 := frozen_row hA11 5
            have m6 := frozen_row hA11 6
            have m7 := frozen_row hA11 7
            have m8 := frozen_row hA11 8
            refine tree_bar ?_
            refine step_same rfl (by rfl) ?_
            simp only [List.getElem_toArray, List.getElem_cons_zero, List.getElem_cons_succ]
            go_simp
            refine ⟨regrown_of_below (st9 hv11 hg9), ?_⟩
            refine tree_end ?_
            go_wp2_with fail
            go_meet
            exact fin9 hv11 hA11 hg9
        · refine step_same rfl (by rfl) ?_
          simp only [List.getElem_toArray, List.getElem_cons_zero, List.getElem_cons_succ]
          go_simp
          have hA12 := heap_alloc_new V2 (.cells #[.int .u32 0, .int .i64 0, .int .u8 0, .int .i64 0, .int .i64 0, .int .i64 0, .string ⟨#[]⟩, .int .u32 0, .bool false] 27)
          have hb12 := below1 V2 (.cells #[.int .u32 0, .int .i64 0, .int .u8 0, .int .i64 0, .int .i64 0, .int .i64 0, .string ⟨#[]⟩, .int .u32 0, .bool false] 27)
          have hv12 := below_call hv2 hb12
          have hg12 : W3.heap.size ≤ V2.heap.size := hv2.size
          have B_F12 := blk_below hb12 B_F2
          refine ⟨regrown_of_below hv12, ?_⟩
          generalize V2.alloc (.cells #[.int .u32 0, .int .i64 0, .int .u8 0, .int .i64 0, .int .i64 0, .int .i64 0, .string ⟨#[]⟩, .int .u32 0, .bool false] 27) = V12 at *
          generalize V2.heap.size = gA at *
          refine tree_bar ?_
          refine step_same rfl (by rfl) ?_
          simp only [List.getElem_toArray, List.getElem_cons_zero, List.getElem_cons_succ]
          go_simp
          refine (KN.out x2 (by with_reducible assumption) V12 hv12).mono ?_
          rintro e V13 ⟨rfl, _, hb13⟩
          have hv13 := below_call hv12 hb13
          have hA13 := blk_below hb13 hA12
          have B_F13 := blk_below hb13 B_F12
          refine ⟨regrown_of_below hv13, ?_⟩
          refine tree_bar ?_
          refine step_same rfl (by rfl) ?_
          simp only [List.getElem_toArray, List.getElem_cons_zero, List.getElem_cons_succ]
          go_simp
          refine (KN.out x3 (by with_reducible assumption) V13 hv13).mono ?_
          rintro e V14 ⟨rfl, _, hb14⟩
          have hv14 := below_call hv13 hb14
          have hA14 := blk_below hb14 hA13
          have B_F14 := blk_below hb14 B_F13
          refine ⟨regrown_of_below hv14, ?_⟩
          refine tree_bar ?_
          refine step_same rfl (by rfl) ?_
          simp only [List.getElem_toArray, List.getElem_cons_zero, List.getElem_cons_succ]
          go_simp
          refine (KN.out x4 (by with_reducible assumption) V14 hv14).mono ?_
          rintro e V15 ⟨rfl, _, hb15⟩
          have hv15 := below_call hv14 hb15
          have hA15 := blk_below hb15 hA14
          have B_F15 := blk_below hb15 B_F14
          refine ⟨regrown_of_below hv15, ?_⟩
          refine tree_take [20] [_] rfl rfl ?_
          simp only [List.getElem_toArray, List.getElem_cons_zero, List.getElem_cons_succ]
          repeat (go_big_quiet_step (fail))
          refine wpQuiet_nil ?_
          obtain ⟨n0, n1, n2, n3, n4, n5, n6, n7, n8⟩ := blk9 hA15
          have m0 := frozen_row hA15 0
          have m1 := frozen_row hA15 1
          have m2 := frozen_row hA15 2
          have m3 := frozen_row hA15 3
          have m4 := frozen_row hA15 4
          have m5 := frozen_row hA15 5
          have m6 := frozen_row hA15 6
          have m7 := frozen_row hA15 7
          have m8 := frozen_row hA15 8
          refine tree_bar ?_
          refine step_same rfl (by rfl) ?_
          simp only [List.getElem_toArray, List.getElem_cons_zero, List.getElem_cons_succ]
          go_simp
          refine ⟨regrown_of_below (st9 hv15 hg12), ?_⟩
          refine tree_end ?_
          go_wp2_with fail
          go_meet
          exact fin9 hv15 hA15 hg12
      · refine step_same rfl (by rfl) ?_
        simp only [List.getElem_toArray, List.getElem_cons_zero, List.getElem_cons_succ]
        go_simp
        have hA16 := heap_alloc_new V1 (.cells #[.int .u32 0, .int .i64 0, .int .u8 0, .int .i64 0, .int .i64 0, .int .i64 0, .string ⟨#[]⟩, .int .u32 0, .bool false] 27)
        have hb16 := below1 V1 (.cells #[.int .u32 0, .int .i64 0, .int .u8 0, .int .i64 0, .int .i64 0, .int .i64 0, .string ⟨#[]⟩, .int .u32 0, .bool false] 27)
        have hv16 := below_call hv1 hb16
        have hg16 : W3.heap.size ≤ V1.heap.size := hv1.size
        have B_F16 := blk_below hb16 hF1
        refine ⟨regrown_of_below hv16, ?_⟩
        generalize V1.alloc (.cells #[.int .u32 0, .int .i64 0, .int .u8 0, .int .i64 0, .int .i64 0, .int .i64 0, .string ⟨#[]⟩, .int .u32 0, .bool false] 27) = V16 at *
        generalize V1.heap.size = gA at *
        refine tree_bar ?_
        refine step_same rfl (by rfl) ?_
        simp only [List.getElem_toArray, List.getElem_cons_zero, List.getElem_cons_succ]
        go_simp
        refine (KI.out V16 gf B_F16).mono ?_
        rintro e V17 ⟨rfl, hb17⟩
        have hv17 := below_call hv16 hb17
        have hA17 := blk_below hb17 hA16
        have B_F17 := blk_below hb17 B_F16
        refine ⟨regrown_of_below hv17, ?_⟩
        refine tree_take [6, 7] [_, _] rfl rfl ?_
        simp only [List.getElem_toArray, List.getElem_cons_zero, List.getElem_cons_succ]
        repeat (go_big_quiet_step (fail))
        refine wpQuiet_nil ?_
        refine tree_bar ?_
        refine step_same rfl (by rfl) ?_
        simp only [List.getElem_toArray, List.getElem_cons_zero, List.getElem_cons_succ]
        go_simp
        refine (KN.out x2 (by with_reducible assumption) V17 hv17).mono ?_
        rintro e V18 ⟨rfl, _, hb18⟩
        have hv18 := below_call hv17 hb18
        have hA18 := blk_below hb18 hA17
        have B_F18 := blk_below hb18 B_F17
        refine ⟨regrown_of_below hv18, ?_⟩
        refine tree_bar ?_
        refine step_same rfl (by rfl) ?_
        simp only [List.getElem_toArray, List.getElem_cons_zero, List.getElem_cons_succ]
        go_simp
        refine (KN.out x3 (by with_reducible assumption) V18 hv18).mono ?_
        rintro e V19 ⟨rfl, _, hb19⟩
        have hv19 := below_call hv18 hb19
        have hA19 := blk_below hb19 hA18
        have B_F19 := blk_below hb19 B_F18
        refine ⟨regrown_of_below hv19, ?_⟩
        refine tree_bar ?_
        refine step_same rfl (by rfl) ?_
        simp only [List.getElem_toArray, List.getElem_cons_zero, List.getElem_cons_succ]
        go_simp
        refine (KN.out x4 (by with_reducible assumption) V19 hv19).mono ?_
        rintro e V20 ⟨rfl, _, hb20⟩
        have hv20 := below_call hv19 hb20
        have hA20 := blk_below hb20 hA19
        have B_F20 := blk_below hb20 B_F19
        refine ⟨regrown_of_below hv20, ?_⟩
        refine tree_take [20] [_] rfl rfl ?_
        simp only [List.getElem_toArray, List.getElem_cons_zero, List.getElem_cons_succ]
        repeat (go_big_quiet_step (fail))
        refine wpQuiet_nil ?_
        obtain ⟨n0, n1, n2, n3, n4, n5, n6, n7, n8⟩ := blk9 hA20
        have m0 := frozen_row hA20 0
        have m1 := frozen_row hA20 1
        have m2 := frozen_row hA20 2
        have m3 := frozen_row hA20 3
        have m4 := frozen_row hA20 4
        have m5 := frozen_row hA20 5
        have m6 := frozen_row hA20 6
        have m7 := frozen_row hA20 7
        have m8 := frozen_row hA20 8
        refine tree_bar ?_
        refine step_same rfl (by rfl) ?_
        simp only [List.getElem_toArray, List.getElem_cons_zero, List.getElem_cons_succ]
        go_simp
        refine ⟨regrown_of_below (st9 hv20 hg16), ?_⟩
        refine tree_end ?_
        go_wp2_with fail
        go_meet
        exact fin9 hv20 hA20 hg16
    · refine step_same rfl (by rfl) ?_
      simp only [List.getElem_toArray, List.getElem_cons_zero, List.getElem_cons_succ]
      go_simp
      have hA21 := heap_alloc_new V0 (.cells #[.int .u32 0, .int .i64 0, .int .u8 0, .int .i64 0, .int .i64 0, .int .i64 0, .string ⟨#[]⟩, .int .u32 0, .bool false] 27)
      have hb21 := below1 V0 (.cells #[.int .u32 0, .int .i64 0, .int .u8 0, .int .i64 0, .int .i64 0, .int .i64 0, .string ⟨#[]⟩, .int .u32 0, .bool false] 27)
      have hv21 := below_call hv0 hb21
      have hg21 : W3.heap.size ≤ V0.heap.size := hv0.size
      refine ⟨regrown_of_below hv21, ?_⟩
      generalize V0.alloc (.cells #[.int .u32 0, .int .i64 0, .int .u8 0, .int .i64 0, .int .i64 0, .int .i64 0, .string ⟨#[]⟩, .int .u32 0, .bool false] 27) = V21 at *
      generalize V0.heap.size = gA at *
      refine tree_bar ?_
      refine step_same rfl (by rfl) ?_
      simp only [List.getElem_toArray, List.getElem_cons_zero, List.getElem_cons_succ]
      go_simp
      refine (KF.out V21 hv21).mono ?_
      rintro e V22 ⟨gf, rfl, hF22, _, hb22⟩
      have hv22 := below_call hv21 hb22
      have hA22 := blk_below hb22 hA21
      refine ⟨regrown_of_below hv22, ?_⟩
      refine tree_bar ?_
      refine step_same rfl (by rfl) ?_
      simp only [List.getElem_toArray, List.getElem_cons_zero, List.getElem_cons_succ]
      go_simp
      refine (KI.out V22 gf hF22).mono ?_
      rintro e V23 ⟨rfl, hb23⟩
      have hv23 := below_call hv22 hb23
      have hA23 := blk_below hb23 hA22
      have B_F23 := blk_below hb23 hF22
      refine ⟨regrown_of_below hv23, ?_⟩
      refine tree_take [6, 7] [_, _] rfl rfl ?_
      simp only [List.getElem_toArray, List.getElem_cons_zero, List.getElem_cons_succ]
      repeat (go_big_quiet_step (fail))
      refine wpQuiet_nil ?_
      refine tree_bar ?_
      refine step_same rfl (by rfl) ?_
      simp only [List.getElem_toArray, List.getElem_cons_zero, List.getElem_cons_succ]
      go_simp
      refine (KN.out x2 (by with_reducible assumption) V23 hv23).mono ?_
      rintro e V24 ⟨rfl, _, hb24⟩
      have hv24 := below_call hv23 hb24
      have hA24 := blk_below hb24 hA23
      have B_F24 := blk_below hb24 B_F23
      refine ⟨regrown_of_below hv24, ?_⟩
      refine tree_bar ?_
      refine step_same rfl (by rfl) ?_
      simp only [List.getElem_toArray, List.getElem_cons_zero, List.getElem_cons_succ]
      go_simp
      refine (KN.out x3 (by with_reducible assumption) V24 hv24).mono ?_
      rintro e V25 ⟨rfl, _, hb25⟩
      have hv25 := below_call hv24 hb25
      have hA25 := blk_below hb25 hA24
      have B_F25 := blk_below hb25 B_F24
      refine ⟨regrown_of_below hv25, ?_⟩
      refine tree_bar ?_
      refine step_same rfl (by rfl) ?_
      simp only [List.getElem_toArray, List.getElem_cons_zero, List.getElem_cons_succ]
      go_simp
      refine (KN.out x4 (by with_reducible assumption) V25 hv25).mono ?_
      rintro e V26 ⟨rfl, _, hb26⟩
      have hv26 := below_call hv25 hb26
      have hA26 := blk_below hb26 hA25
      have B_F26 := blk_below hb26 B_F25
      refine ⟨regrown_of_below hv26, ?_⟩
      refine tree_take [20] [_] rfl rfl ?_
      simp only [List.getElem_toArray, List.getElem_cons_zero, List.getElem_cons_succ]
      repeat (go_big_quiet_step (fail))
      refine wpQuiet_nil ?_
      obtain ⟨n0, n1, n2, n3, n4, n5, n6, n7, n8⟩ := blk9 hA26
      have m0 := frozen_row hA26 0
      have m1 := frozen_row hA26 1
      have m2 := frozen_row hA26 2
      have m3 := frozen_row hA26 3
      have m4 := frozen_row hA26 4
      have m5 := frozen_row hA26 5
      have m6 := frozen_row hA26 6
      have m7 := frozen_row hA26 7
      have m8 := frozen_row hA26 8
      refine tree_bar ?_
      refine step_same rfl (by rfl) ?_
      simp only [List.getElem_toArray, List.getElem_cons_zero, List.getElem_cons_succ]
      go_simp
      refine ⟨regrown_of_below (st9 hv26 hg21), ?_⟩
      refine tree_end ?_
      go_wp2_with fail
      go_meet
      exact fin9 hv26 hA26 hg21
  case rest =>
    obtain ⟨g, hs7, hgW, hkr, hbx⟩ := hcut
    subst hs7
    clear KF KN KI s1 s2 s3 s4 p0 p1
    have hfr : max 0 ix = fromI x1.data.toList := mfr.out
    rw [hfr] at hkr
    have hcl : ∀ (i : Nat) (y : ByteArray), R[i]? = some y → W3.cell? ⟨gL, 5 + i, none⟩ = some (.string y) := fun i y hy => cells_str (k := 5 + i) HKL3.out (by rw [Nat.add_comm]; exact hy)
    have HCL := Lib.hid hcl
    have HKR := Lib.hid hkr
    have e5 : N - 5 = R.length := by have := HNR.out; omega
    have h5 : 5 ≤ N := by omega
    have h5i : (5 : Int) ≤ (N : Int) := by omega
    clear hcl hkr ifr mfr
    have hAd := Lib.hid (show ∀ x : ByteArray, x.size < 4294967281 → ∀ V : World, Below W3.heap.size W3 V → Calls Tryz.prog 35 #[.string x] V _ from fun x hx V h => addrParse_any x V (hE3.below h) hx)
    go_upto_region 7 with fail
    generalize hA5 : (if N = 5 then some (⟨gL, 0, none⟩ : Addr) else some ⟨gL, 5, none⟩) = A5
    have hA : 0 < R.length → A5 = some ⟨gL, 5, none⟩ := fun h => by rw [← hA5, if_neg (by omega)]
    clear hA5 e5
    have hn63 : R.length ≤ 9223372036854775807 := by have := HNR.out; omega
    generalize hn : R.length = n at *
    have HN2 := Lib.hid hn.symm
    clear hn
    have HBX := Lib.hid hbx
    clear hbx
    go_cut [54] (fun sb wx => sb = .bool (begB viaW R) ∧ Hid (wx.heap[g]? = some (.cells #[.int .u32 (ppA x0.data.toList), .int .i64 (ppN x0.data.toList), .int .u8 (fromI x1.data.toList), .int .i64 (num31 x2.data.toList), .int .i64 (num31 x3.data.toList), .int .i64 (num31 x4.data.toList), .string ⟨#[]⟩, .int .u32 0, .bool false] 27 (0, 0)) ∧ Below W3.heap.size W3 wx))
    case first =>
      rcases R with _ | ⟨v, _ | ⟨x, t⟩⟩
      · have hz : n = 0 := HN2.out
        have hI : ¬ (n : Int) > 1 := by omega
        clear hz
        go_wp2_with fail
        go_meet
        exact ⟨rfl, HKR.out, HBX.out⟩
      · have hz : n = 1 := HN2.out
        have hI : ¬ (n : Int) > 1 := by omega
        clear hz
        go_wp2_with fail
        go_meet
        exact ⟨rfl, HKR.out, HBX.out⟩
      · have hz : n = t.length + 2 := HN2.out
        obtain rfl := hA (by omega)
        have hI : (n : Int) > 1 := by omega
        have hi0 : (0 : Int) < (n : Int) := by omega
        have hj0 : 0 < n := by omega
        have f0 : wc.cell? ⟨gL, 5, none⟩ = some (.string v) := cell_kept HBX.out (HCL.out 0 v rfl)
        have hv1 : (v.toList == [118, 105, 97]) = begB viaW (v :: x :: t) := by
          rw [list_of, Bool.eq_iff_iff]
          simp only [begB, beq_iff_eq, decide_eq_true_eq]
          exact Iff.rfl
        clear hz
        go_wp2_with fail
        go_meet
        exact ⟨rfl, HKR.out, HBX.out⟩
    case rest =>
      obtain ⟨hs54, hh1⟩ := hcut
      subst hs54
      rename World => wa
      have HH1 := Lib.hid hh1
      clear hh1
      obtain ⟨bv, hbv⟩ : ∃ b, begB viaW R = b := ⟨_, rfl⟩
      rw [hbv]
      go_upto_if 54 with fail
      go_cut [4] (fun s4 wx => ∃ (A : Option Addr) (o c : Nat) (R2 : List ByteArray), s4 = .slice A R2.length c ∧ Hid ((0 < R2.length → A = some ⟨gL, o, none⟩) ∧ R2.length ≤ R.length ∧ (∀ y ∈ R2, y ∈ R) ∧ (hopS (R.map (·.data.toList))).2 = R2.map (·.data.toList) ∧ (∀ (i : Nat) (y : ByteArray), R2[i]? = some y → W3.cell? ⟨gL, o + i, none⟩ = some (.string y)) ∧ wx.heap[g]? = some (.cells #[.int .u32 (ppA x0.data.toList), .int .i64 (ppN x0.data.toList), .int .u8 (fromI x1.data.toList), .int .i64 (num31 x2.data.toList), .int .i64 (num31 x3.data.toList), .int .i64 (num31 x4.data.toList), .string ⟨#[]⟩, .int .u32 (hopS (R.map (·.data.toList))).1, .bool false] 27 (0, 0)) ∧ Below W3.heap.size W3 wx))
      case first =>
        cases bv with
        | true =>
          obtain ⟨v, x, t, rfl, hv⟩ := beg_two hbv
          have hz : n = t.length + 2 := HN2.out
          obtain rfl := hA (by omega)
          have hi0 : (0 : Int) < (n : Int) := by omega
          have hi1 : (1 : Int) < (n : Int) := by omega
          have hj0 : 0 < n := by omega
          have hj1 : 1 < n := by omega
          have hj2 : 2 ≤ n := by omega
          have hj2i : (2 : Int) ≤ (n : Int) := by omega
          have HT := Lib.hid (show t.length = n - 2 by omega)
          clear hz hbv
          have f1 : wa.cell? ⟨gL, 6, none⟩ = some (.string x) := cell_kept HH1.out.2 (HCL.out 1 x rfl)
          have hh := Lib.hid (hop_yes (x := x.data.toList) (t := t.map (·.data.toList)) hv)
          have hsx := HL.out x (by simp)
          clear hv
          go_wp2_with fail
          refine (hAd.out x hsx _ HH1.out.2).mono ?_
          rintro e wd ⟨rfl, hb⟩
          have hbd := Lib.hid (below_call HH1.out.2 hb)
          have hkd := blk_below hb HH1.out.1
          obtain ⟨n0, n1, n2, n3, n4, n5, n6, n7, n8⟩ := blk9 hkd
          have m0 := frozen_row hkd 0
          have m1 := frozen_row hkd 1
          have m2 := frozen_row hkd 2
          have m3 := frozen_row hkd 3
          have m4 := frozen_row hkd 4
          have m5 := frozen_row hkd 5
          have m6 := frozen_row hkd 6
          have m7 := frozen_row hkd 7
          have m8 := frozen_row hkd 8
          have HKD := Lib.hid hkd
          clear hkd hb f1
          by_cases h2 : n = 2
          · obtain rfl : t = [] := List.eq_nil_of_length_eq_zero (by have := HT.out; omega)
            go_wp2_with fail
            go_meet
            refine ⟨_, 7, _, [], rfl, fun h => absurd h (by simp), by simp, fun y h => by simp at h, congrArg Prod.snd hh.out, fun i y hy => by simp at hy, ?_, hbd.out.setCell hgW _⟩
            rw [show (hopS (([v, x] : List ByteArray).map (·.data.toList))).1 = adV (parseB x.data.toList) from congrArg Prod.fst hh.out]
            exact qset7 HKD.out
          · go_wp2_with fail
            go_meet
            refine ⟨_, 7, _, t, by rw [HT.out], fun h => rfl, by simp; omega, fun y h => by simp [h], congrArg Prod.snd hh.out, fun i y hy => ?_, ?_, hbd.out.setCell hgW _⟩
            · have := HCL.out (i + 2) y hy
              rwa [show 5 + (i + 2) = 7 + i by omega] at this
            · rw [show (hopS ((v :: x :: t).map (·.data.toList))).1 = adV (parseB x.data.toList) from congrArg Prod.fst hh.out]
              exact qset7 HKD.out
        | false =>
          have hh := hop_of hbv
          have HHB := Lib.hid hh
          clear hh hbv
          go_wp2_with fail
          go_meet
          refine ⟨_, 5, _, R, by rw [← HN2.out], fun h => hA (by have := HN2.out; omega), by simp, fun y h => h, by rw [HHB.out], HCL.out, ?_, HH1.out.2⟩
          rw [HHB.out]
          exact HH1.out.1
      case rest =>
        obtain ⟨A2, o2, c2, R2, hs4, hh2⟩ := hcut
        subst hs4
        rename World => wb
        obtain ⟨hA2, hlen2, hmem2, hhop, hcl2, hk2, hb2⟩ := hh2.out
        have HCL2 := Lib.hid hcl2
        have HK2 := Lib.hid hk2
        have HB2 := Lib.hid hb2
        have HHOP := Lib.hid hhop
        clear hh2 hmem2 hcl2 hk2 hb2 hhop HH1 hn63 hA
        have hn63 : R2.length ≤ 9223372036854775807 := by have := HNR.out; have := HN2.out; omega
        clear hlen2
        go_upto_region 10 with fail
        generalize hn2 : R2.length = n2 at *
        have HN3 := Lib.hid hn2.symm
        clear hn2
        go_cut [73] (fun sb wx => sb = .bool (begB onW R2) ∧ Hid (wx.heap[g]? = some (.cells #[.int .u32 (ppA x0.data.toList), .int .i64 (ppN x0.data.toList), .int .u8 (fromI x1.data.toList), .int .i64 (num31 x2.data.toList), .int .i64 (num31 x3.data.toList), .int .i64 (num31 x4.data.toList), .string ⟨#[]⟩, .int .u32 (hopS (R.map (·.data.toList))).1, .bool false] 27 (0, 0)) ∧ Below W3.heap.size W3 wx))
        case first =>
          rcases R2 with _ | ⟨v, _ | ⟨x, t⟩⟩
          · have hz : n2 = 0 := HN3.out
            have hI : ¬ (n2 : Int) > 1 := by omega
            clear hz
            go_wp2_with fail
            go_meet
            exact ⟨rfl, HK2.out, HB2.out⟩
          · have hz : n2 = 1 := HN3.out
            have hI : ¬ (n2 : Int) > 1 := by omega
            clear hz
            go_wp2_with fail
            go_meet
            exact ⟨rfl, HK2.out, HB2.out⟩
          · have hz : n2 = t.length + 2 := HN3.out
            obtain rfl := hA2 (by omega)
            have hI : (n2 : Int) > 1 := by omega
            have hi0 : (0 : Int) < (n2 : Int) := by omega
            have hj0 : 0 < n2 := by omega
            have f0 : wb.cell? ⟨gL, o2, none⟩ = some (.string v) := cell_kept HB2.out (HCL2.out 0 v rfl)
            have hv1 : (v.toList == [111, 110]) = begB onW (v :: x :: t) := by
              rw [list_of, Bool.eq_iff_iff]
              simp only [begB, beq_iff_eq, decide_eq_true_eq]
              exact Iff.rfl
            clear hz
            go_wp2_with fail
            go_meet
            exact ⟨rfl, HK2.out, HB2.out⟩
        case rest =>
          obtain ⟨hs73, hh3⟩ := hcut
          subst hs73
          clear HK2 HB2
          rename World => wd
          have HH3 := Lib.hid hh3
          clear hh3
          obtain ⟨bo, hbo⟩ : ∃ b, begB onW R2 = b := ⟨_, rfl⟩
          rw [hbo]
          go_upto_if 73 with fail
          go_cut [4] (fun s4 wx => ∃ (A : Option Addr) (c : Nat), s4 = .slice A (nmS (R2.map (·.data.toList))).2.length c ∧ Hid (wx.heap[g]? = some (.cells #[.int .u32 (ppA x0.data.toList), .int .i64 (ppN x0.data.toList), .int .u8 (fromI x1.data.toList), .int .i64 (num31 x2.data.toList), .int .i64 (num31 x3.data.toList), .int .i64 (num31 x4.data.toList), .string ⟨(nmS (R2.map (·.data.toList))).1.toArray⟩, .int .u32 (hopS (R.map (·.data.toList))).1, .bool false] 27 (0, 0)) ∧ Below W3.heap.size W3 wx))
          case first =>
            cases bo with
            | true =>
              obtain ⟨v, x, t, rfl, hv⟩ := beg_two hbo
              have hz : n2 = t.length + 2 := HN3.out
              obtain rfl := hA2 (by omega)
              have hi0 : (0 : Int) < (n2 : Int) := by omega
              have hi1 : (1 : Int) < (n2 : Int) := by omega
              have hj0 : 0 < n2 := by omega
              have hj1 : 1 < n2 := by omega
              have hj2 : 2 ≤ n2 := by omega
              have hj2i : (2 : Int) ≤ (n2 : Int) := by omega
              have HT := Lib.hid (show t.length = n2 - 2 by omega)
              clear hz hbo
              have f1 : wd.cell? ⟨gL, o2 + 1, none⟩ = some (.string x) := cell_kept HH3.out.2 (HCL2.out 1 x rfl)
              have hh := Lib.hid (nm_yes (x := x.data.toList) (t := t.map (·.data.toList)) hv)
              clear hv
              have hkd := HH3.out.1
              obtain ⟨n0, n1, n2', n3, n4, n5, n6, n7, n8⟩ := blk9 hkd
              have m0 := frozen_row hkd 0
              have m1 := frozen_row hkd 1
              have m2 := frozen_row hkd 2
              have m3 := frozen_row hkd 3
              have m4 := frozen_row hkd 4
              have m5 := frozen_row hkd 5
              have m6 := frozen_row hkd 6
              have m7 := frozen_row hkd 7
              have m8 := frozen_row hkd 8
              have HKD := Lib.hid hkd
              clear hkd
              have hns : nmS ((v :: x :: t).map (·.data.toList)) = (x.data.toList, t.map (·.data.toList)) := hh.out
              have HNS := Lib.hid hns
              clear hns
              by_cases h2 : c2 = 2
              all_goals (
                go_wp2_with fail
                go_meet
                refine ⟨_, _, by rw [HNS.out, List.length_map, HT.out], ?_, HH3.out.2.setCell hgW _⟩
                rw [HNS.out, str_mk]
                exact qset6 HKD.out)
            | false =>
              have hh := Lib.hid (nm_of hbo)
              clear hbo
              go_wp2_with fail
              go_meet
              refine ⟨_, _, by rw [hh.out, List.length_map, ← HN3.out], ?_, HH3.out.2⟩
              rw [hh.out]
              exact HH3.out.1
          case rest =>
            obtain ⟨A4, c4, hs4, hh4⟩ := hcut
            subst hs4
            rename World => wf
            clear HH3 hA2 hbo
            have hC0 : restR (R.map (·.data.toList)) = (((hopS (R.map (·.data.toList))).1), (nmS (R2.map (·.data.toList))).1, !(nmS (R2.map (·.data.toList))).2.isEmpty) := by rw [restR_steps, HHOP.out]
            have hlen4 : (nmS (R2.map (·.data.toList))).2.length ≤ 9223372036854775807 := by
              have h1 : (nmS (R2.map (·.data.toList))).2.length ≤ (R2.map (·.data.toList)).length := by
                unfold nmS
                split
                · split
                  · rename_i h _; rw [h]; simp; omega
                  · exact Nat.le_refl _
                · exact Nat.le_refl _
              rw [List.length_map] at h1
              have := HN3.out; omega
            have hdc : decide (0 < (nmS (R2.map (·.data.toList))).2.length) = !(nmS (R2.map (·.data.toList))).2.isEmpty := by
              cases (nmS (R2.map (·.data.toList))).2 with
              | nil => rfl
              | cons a b => simp
            have hkC : (wf.setCell ⟨g, 8, none⟩ (.bool (decide (0 < (nmS (R2.map (·.data.toList))).2.length)))).heap[g]? = some (rtObj (candR x0.data.toList x1.data.toList x2.data.toList x3.data.toList x4.data.toList (R.map (·.data.toList)))) := by
              rw [qset8 hh4.out.1, hdc]
              unfold rtObj candR
              dsimp only
              rw [hC0]
            have hbC := hh4.out.2.setCell (p := ⟨g, 8, none⟩) hgW (.bool (decide (0 < (nmS (R2.map (·.data.toList))).2.length)))
            have hO := roO_cand HP.out
            have hk4 := hh4.out.1
            obtain ⟨n0, n1, n2', n3, n4, n5, n6, n7, n8⟩ := blk9 hk4
            have m8 := frozen_row hk4 8
            clear hC0 hdc hh4 hk4
            generalize (nmS (R2.map (·.data.toList))).2.length = nl at *
            have HO := Lib.hid hO
            have HKC := Lib.hid hkC
            have HBC := Lib.hid hbC
            clear hO hkC hbC
            go_upto_region 14 with fail
            clear n0 n1 n2' n3 n4 n5 n6 n7 n8 m8
            generalize candR x0.data.toList x1.data.toList x2.data.toList x3.data.toList x4.data.toList (R.map (·.data.toList)) = C at *
            have hkC2 := HKC.out
            obtain ⟨n0, n1, n2', n3, n4, n5, n6, n7, n8⟩ := rt_blk hkC2
            clear hkC2
            generalize wf.setCell ⟨g, 8, none⟩ (.bool (decide (0 < nl))) = wg at *
            have hEg := hE3.below HBC.out
            have hT0 := rtText_any C wg hEg (fun _ => name_any C.nm)
            obtain ⟨tt, htt⟩ : ∃ x, (⟨C.told.toArray⟩ : ByteArray) = x := ⟨_, rfl⟩
            rw [htt] at hT0
            have hT := Lib.hid hT0
            have HTT := Lib.hid htt
            clear hT0 htt
            go_wp2_with fail
            refine hT.out.mono ?_
            rintro e wh ⟨rfl, hbh⟩
            have hbW := below_call HBC.out hbh
            have hk0 := blk_below hbW HK3.out
            have hbw := hb3.trans (hbW.mono hb3.size)
            have HKC2 := Lib.hid (blk_below hbh HKC.out)
            obtain ⟨d0, d1, d2, d3, d4, d5, d6, d7, d8⟩ := rt_blk (r := default) hk0
            have z0 := frozen_row hk0 0
            have z1 := frozen_row hk0 1
            have z2 := frozen_row hk0 2
            have z3 := frozen_row hk0 3
            have z4 := frozen_row hk0 4
            have z5 := frozen_row hk0 5
            have z6 := frozen_row hk0 6
            have z7 := frozen_row hk0 7
            have z8 := frozen_row hk0 8
            have HKZ := Lib.hid hk0
            clear n0 n1 n2' n3 n4 n5 n6 n7 n8 hk0 hbh hT
            by_cases he : ppE x0.data.toList = 0
            · have he1 : (ppE x0.data.toList != 0) = false := by simpa using he
              cases hok : C.ok with
              | true =>
                have ht1 := rt_told_yes hok
                by_cases ht : C.text = s.data.toList
                · have hz := Lib.hid (ro_some (HO.out.trans (if_pos ⟨he, hok, ht⟩)))
                  have hs1 : (tt.toList != s.toList) = false := by rw [← HTT.out, ht1.1, ht, str_mk]; simp
                  have hs3 : (tt.toList == s.toList) = true := by simpa using hs1
                  have hs2 : (C.toldE != 0) = false := by rw [ht1.2]; rfl
                  have hkC2 := HKC2.out
                  obtain ⟨n0, n1, n2', n3, n4, n5, n6, n7, n8⟩ := rt_blk hkC2
                  clear hkC2 he hok ht ht1
                  go_wp2_with fail
                  exact bodyPost_ret (results_t (t1 := 2) (t3 := 3) (g := w.heap.size) (r := C) Tryz.results10 rfl rfl (qset8 (qset7 (qset6 (qset5 (qset4 (qset3 (qset2 (qset1 (qset0 HKZ.out)))))))))) rfl ⟨by rw [hz.out.1, hz.out.2]; rfl, (((((((((hbw.setCell (Nat.le_refl _) _).setCell (Nat.le_refl _) _).setCell (Nat.le_refl _) _).setCell (Nat.le_refl _) _).setCell (Nat.le_refl _) _).setCell (Nat.le_refl _) _).setCell (Nat.le_refl _) _).setCell (Nat.le_refl _) _).setCell (Nat.le_refl _) _)⟩
                · have hz := Lib.hid (ro_none (HO.out.trans (if_neg fun h => ht h.2.2)))
                  have hs1 : (tt.toList != s.toList) = true := by
                    rw [← HTT.out, ht1.1, list_of, list_of]
                    simpa using ht
                  have hs3 : (tt.toList == s.toList) = false := by simpa using hs1
                  have hs2 : (C.toldE != 0) = false := by rw [ht1.2]; rfl
                  clear he hok ht ht1
                  go_wp2_with fail
                  exact bodyPost_ret (results_t (t1 := 2) (t3 := 3) (g := w.heap.size) (r := default) Tryz.results10 rfl rfl (qset8 (qset7 (qset6 (qset5 (qset4 (qset3 (qset2 (qset1 (qset0 HKZ.out)))))))))) rfl ⟨by rw [hz.out.1, hz.out.2]; rfl, (((((((((hbw.setCell (Nat.le_refl _) _).setCell (Nat.le_refl _) _).setCell (Nat.le_refl _) _).setCell (Nat.le_refl _) _).setCell (Nat.le_refl _) _).setCell (Nat.le_refl _) _).setCell (Nat.le_refl _) _).setCell (Nat.le_refl _) _).setCell (Nat.le_refl _) _)⟩
              | false =>
                have ht1 := rt_told_no hok
                have hz := Lib.hid (ro_none (HO.out.trans (if_neg fun h => by rw [hok] at h; exact absurd h.2.1 (by decide))))
                have hs2 : (C.toldE != 0) = true := by rw [ht1.2]; rfl
                clear he hok ht1
                go_wp2_with fail
                exact bodyPost_ret (results_t (t1 := 2) (t3 := 3) (g := w.heap.size) (r := default) Tryz.results10 rfl rfl (qset8 (qset7 (qset6 (qset5 (qset4 (qset3 (qset2 (qset1 (qset0 HKZ.out)))))))))) rfl ⟨by rw [hz.out.1, hz.out.2]; rfl, (((((((((hbw.setCell (Nat.le_refl _) _).setCell (Nat.le_refl _) _).setCell (Nat.le_refl _) _).setCell (Nat.le_refl _) _).setCell (Nat.le_refl _) _).setCell (Nat.le_refl _) _).setCell (Nat.le_refl _) _).setCell (Nat.le_refl _) _).setCell (Nat.le_refl _) _)⟩
            · have he1 : (ppE x0.data.toList != 0) = true := by simpa using he
              have hz := Lib.hid (ro_none (HO.out.trans (if_neg fun h => he h.1)))
              clear he
              go_wp2_with fail
              exact bodyPost_ret (results_t (t1 := 2) (t3 := 3) (g := w.heap.size) (r := default) Tryz.results10 rfl rfl (qset8 (qset7 (qset6 (qset5 (qset4 (qset3 (qset2 (qset1 (qset0 HKZ.out)))))))))) rfl ⟨by rw [hz.out.1, hz.out.2]; rfl, (((((((((hbw.setCell (Nat.le_refl _) _).setCell (Nat.le_refl _) _).setCell (Nat.le_refl _) _).setCell (Nat.le_refl _) _).setCell (Nat.le_refl _) _).setCell (Nat.le_refl _) _).setCell (Nat.le_refl _) _).setCell (Nat.le_refl _) _).setCell (Nat.le_refl _) _)⟩
theorem rtParse_short (s : ByteArray) (L : List ByteArray) (w : World) (hE : Env w) (hlim : s.size < 4294967281) (hP : (pieces 32 s.data.toList).length = L.length) (hS : Lib.splitB ⟨#[32]⟩ 0 (Lib.countB s ⟨#[32]⟩) s = L) (hN : Lib.countB s ⟨#[32]⟩ + 1 = L.length) (h5 : L.length < 5) :
    Calls Tryz.prog 10 #[.string s] w fun e w' => e = .returned (.tuple #[.agg #[.int .u32 (roV s.data.toList).a, .int .i64 (roV s.data.toList).m, .int .u8 (roV s.data.toList).fr, .int .i64 (roV s.data.toList).di, .int .i64 (roV s.data.toList).me, .int .i64 (roV s.data.toList).ta, .string ⟨(roV s.data.toList).nm.toArray⟩, .int .u32 (roV s.data.toList).ho, .bool (roV s.data.toList).dc], .int .i64 (roE s.data.toList)]) ∧ Below w.heap.size w w' := by
  have hkz := heap_alloc_new w (rtObj default)
  have hb0 := below1 w (rtObj default)
  have hE0 := hE.below hb0
  obtain ⟨m, hm⟩ := hE0.len
  have hSp := Tryz.strings_Split s ⟨#[32]⟩ m (w.alloc (rtObj default)) (by omega) hm (by decide)
  rw [hS, hN] at hSp
  have HSp := Lib.hid hSp
  have hz := Lib.hid (ro_none (roO_len (l := s.data.toList) (by rw [hP]; exact h5)))
  have hd : (L.length : Int) < 5 := by omega
  clear hSp hS hN hm hP
  go_enter Tryz.func10, Tryz.ntmps10
  go_wp2_with fail
  refine HSp.out.mono ?_
  rintro e w1 ⟨rfl, rfl⟩
  have hk1 := (Below.heap_alloc (w.alloc (rtObj default)) (.cells (L.map Value.string).toArray 9) _ (lt_of_block hkz)).trans hkz
  have hb1 := hb0.alloc hb0.size (.cells (L.map Value.string).toArray 9)
  clear HSp hE0 hkz hb0
  generalize (w.alloc (rtObj default)).alloc (.cells (L.map Value.string).toArray 9) = W at *
  obtain ⟨c0, c1, c2, c3, c4, c5, c6, c7, c8⟩ := rt_blk (r := default) hk1
  have f0 := frozen_row hk1 0
  have f1 := frozen_row hk1 1
  have f2 := frozen_row hk1 2
  have f3 := frozen_row hk1 3
  have f4 := frozen_row hk1 4
  have f5 := frozen_row hk1 5
  have f6 := frozen_row hk1 6
  have f7 := frozen_row hk1 7
  have f8 := frozen_row hk1 8
  have HK := Lib.hid hk1
  clear hk1
  go_wp2
  exact bodyPost_ret (results_t (t1 := 2) (t3 := 3) (g := w.heap.size) (r := default) Tryz.results10 rfl rfl (qset8 (qset7 (qset6 (qset5 (qset4 (qset3 (qset2 (qset1 (qset0 HK.out)))))))))) rfl ⟨by rw [hz.out.1, hz.out.2]; rfl, (((((((((hb1.setCell (Nat.le_refl _) _).setCell (Nat.le_refl _) _).setCell (Nat.le_refl _) _).setCell (Nat.le_refl _) _).setCell (Nat.le_refl _) _).setCell (Nat.le_refl _) _).setCell (Nat.le_refl _) _).setCell (Nat.le_refl _) _).setCell (Nat.le_refl _) _)⟩
theorem five_list {L : List ByteArray} (h : 5 ≤ L.length) : ∃ a b c d e R, L = a :: b :: c :: d :: e :: R := by
  rcases L with _ | ⟨a, _ | ⟨b, _ | ⟨c, _ | ⟨d, _ | ⟨e, R⟩⟩⟩⟩⟩
  all_goals first | exact ⟨_, _, _, _, _, _, rfl⟩ | (simp at h)
theorem rtParse_any (s : ByteArray) (w : World) (hE : Env w) (hlim : s.size < 4294967281) :
    Calls Tryz.prog 10 #[.string s] w fun e w' => e = .returned (.tuple #[.agg #[.int .u32 (roV s.data.toList).a, .int .i64 (roV s.data.toList).m, .int .u8 (roV s.data.toList).fr, .int .i64 (roV s.data.toList).di, .int .i64 (roV s.data.toList).me, .int .i64 (roV s.data.toList).ta, .string ⟨(roV s.data.toList).nm.toArray⟩, .int .u32 (roV s.data.toList).ho, .bool (roV s.data.toList).dc], .int .i64 (roE s.data.toList)]) ∧ Below w.heap.size w w' := by
  have hP := splitB_pieces 32 s
  have hN := countB_pieces 32 s
  have hl : (Lib.splitB ⟨#[32]⟩ 0 (Lib.countB s ⟨#[32]⟩) s).length = (pieces 32 s.data.toList).length := by rw [← hP, List.length_map]
  have hss : s.data.toList.length = s.size := Array.length_toList
  have hcnt := pieces_cnt 32 s.data.toList
  have hsz : ∀ x ∈ Lib.splitB ⟨#[32]⟩ 0 (Lib.countB s ⟨#[32]⟩) s, x.size < 4294967281 := fun x hx => by
    have h1 : x.data.toList ∈ pieces 32 s.data.toList := by rw [← hP]; exact List.mem_map_of_mem hx
    have h2 := pieces_len 32 _ _ h1
    have e2 : x.data.toList.length = x.size := Array.length_toList
    omega
  by_cases h5 : 5 ≤ (pieces 32 s.data.toList).length
  · obtain ⟨x0, x1, x2, x3, x4, R, hL⟩ := five_list (L := Lib.splitB ⟨#[32]⟩ 0 (Lib.countB s ⟨#[32]⟩) s) (by rw [hl]; exact h5)
    rw [hL] at hP hsz
    have hlen : (pieces 32 s.data.toList).length = R.length + 5 := by rw [← hl, hL]; rfl
    exact rtParse_five s x0 x1 x2 x3 x4 R w hE hlim hP.symm hL _ (by rw [hN]) hlen hsz (by omega)
  · exact rtParse_short s _ w hE hlim hl.symm rfl (by rw [hN, hl]) (by rw [hl]; omega)
end Go.Proofs.YtlhafehhkjjchaaGreatDoor
