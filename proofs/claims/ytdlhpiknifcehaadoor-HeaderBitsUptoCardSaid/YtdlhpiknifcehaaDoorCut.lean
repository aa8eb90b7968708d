/-
  The walk of the program's Cut and of its closure.
-/
import Derived.Test.YtdlhpiknifcehaaDoorMath
import Derived.Test.YtdlhpiknifcehaaDoorKit
import Derived.Test.YtdlhpiknifcehaaDoorBits
import Derived.Deep.RegionHeld3
namespace Go.Proofs.YtdlhpiknifcehaaDoor
open Go Go.RowKit

set_option maxHeartbeats 400000 in
theorem next_any (b1 b2 : Nat) (a e : Int) (w : World) (h1 : w.heap[b1]? = some (.cells #[.int .u64 a] 88 (0, 0))) (h2 : w.heap[b2]? = some (.cells #[.int .u64 e] 88 (0, 0)))
    (ha : 0 ≤ a) (hae : a < e) (he : e ≤ 4294967296) :
    Calls Tryd.prog 62 #[.pointer (some ⟨b1, 0, none⟩), .pointer (some ⟨b2, 0, none⟩)] w fun en w' =>
      en = .returned (.agg #[.int .u32 a, .int .i64 (32 - (pick a e 32 : Int))]) ∧ w.grownBy w' (some b1) ∧ w'.heap[b1]? = some (.cells #[.int .u64 (a + p2 (pick a e 32))] 88 (0, 0)) := by
  have hc1 := cell_of_one h1
  have hf1 := free_of_one h1
  have hc2 := cell_of_one h2
  have hl1 := lt_of_block h1
  have hl2 := lt_of_block h2
  go_enter Tryd.func62, Tryd.ntmps62
  go_wp2
  go_loop [3] (fun s => ∃ j : Nat, j ≤ 32 ∧ s = .int .u64 (p2 j) ∧ Hid (pick a e 32 = pick a e j)) (fun s => (intOf s).toNat)
  case atStart => exact ⟨32, by omega, by rw [p2_32], rfl⟩
  case round =>
    obtain ⟨j, hj, rfl, hpk⟩ := hrel
    have hp := p2_pos j
    have hq := p2_le32 (k := j) (by omega)
    by_cases hm : a % p2 j = 0
    · by_cases hg : e < a + p2 j
      · go_wp2
        cases j with
        | zero => rw [p2_zero] at hg; omega
        | succ j =>
          refine ⟨⟨j, by omega, by rw [p2_succ]; go_num, ?_⟩, ?_⟩
          · show pick a e 32 = pick a e j
            rw [hpk.out]; exact pick_miss a e j (by omega)
          · have := p2_pos j
            simp only [intOf]; rw [p2_succ]; omega
      · go_wp2
        go_region_held3 (fun w' => w'.cell? ⟨b1, 0, none⟩ = some (.int .u64 a)) (go_keep) (first | (go_at_call 63; refine (lz64_p2 j _ (by omega)).mono ?_; rintro e w' ⟨rfl, rfl⟩))
        all_goals go_wp2
        all_goals
          have e : pick a e 32 = j := by rw [hpk.out]; exact pick_hit a _ j hm (by omega)
          rw [e]
          refine bodyPost_ret (v := .agg #[.int .u32 a, .int .i64 (63 - ↑j - 31)]) (by simp [results, Tryd.results62, go_sem]) rfl ⟨?_, ?_, ?_⟩
          · rw [show (63 - (j : Int) - 31) = 32 - j by omega]
          · exact only_drew (only_alloc (only_alloc (only_setCell (World.grownBy.refl w (some b1)) (p := ⟨b1, 0, none⟩) (.inl rfl) _) _) _)
          · show ((World.alloc (World.alloc _ _) _).heap)[b1]? = _
            rw [Below.heap_alloc _ _ _ (by simp; omega), Below.heap_alloc _ _ _ (by simp; omega)]
            exact one_setCell h1
    · go_wp2
      cases j with
      | zero => exact absurd (by rw [p2_zero]; omega) hm
      | succ j =>
        refine ⟨⟨j, by omega, by rw [p2_succ]; go_num, ?_⟩, ?_⟩
        · show pick a e 32 = pick a e j
          rw [hpk.out]; exact pick_miss a e j (by omega)
        · have := p2_pos j
          simp only [intOf]; rw [p2_succ]; omega

theorem Tryd.infoPrefix : (Tryd.prog.info? 25).map (fun i => (i.zero, i.size, i.bytes)) = some (some (.agg #[.int .u32 0, .int .i64 0]), 2, 16) := by kernel_rfl

/-- The cells of a list of prefixes. -/
def pcells (L : List (Int × Int)) : List Value := L.flatMap fun p => [.int .u32 p.1, .int .i64 p.2]
theorem pcells_snoc (L : List (Int × Int)) (a n : Int) : pcells (L ++ [(a, n)]) = pcells L ++ [.int .u32 a, .int .i64 n] := by simp [pcells]

/-- The prefixes between two addresses. -/
def cutP (lo hi : Int) : List (Int × Int) := cutL (hi + 1) (hi + 1 - lo).toNat lo

/-- A new list of prefixes is handed back, with no error; nothing that was there has turned. -/
def CutRes (L : List (Int × Int)) (w : World) (en : Ending) (w' : World) : Prop :=
  ∃ v, en = .returned (.tuple #[v, .int .i64 0]) ∧ w'.ownsRow w.heap.size 25 2 v L.length (pcells L) ∧ Below w.heap.size w w'

set_option maxRecDepth 100000 in
set_option maxHeartbeats 400000 in
theorem cut_any (lo hi : Int) (w : World) (h0 : 0 ≤ lo) (h1 : lo ≤ hi) (h2 : hi < 4294967296) :
    Calls Tryd.prog 27 #[.int .u32 lo, .int .u32 hi] w (CutRes (cutP lo hi) w) := by
  obtain ⟨i0, hi0, hz0, hz1, hz2⟩ := info_parts Tryd.infoPrefix
  go_enter Tryd.func27, Tryd.ntmps27
  go_wp2
  go_loopw [9] (fun v wr => ∃ (a : Int) (f : Nat) (L : List (Int × Int)), lo ≤ a ∧ a ≤ hi + 1 ∧ hi + 1 - a ≤ f ∧ L.length ≤ a - lo ∧ Hid (L ++ cutL (hi + 1) f a = cutP lo hi) ∧
      wr.ownsRow (w.heap.size + 2) 25 2 v L.length (pcells L) ∧ wr.heap[w.heap.size]? = some (.cells #[.int .u64 a] 88 (0, 0)) ∧ wr.heap[w.heap.size + 1]? = some (.cells #[.int .u64 (hi + 1)] 88 (0, 0)) ∧ Below w.heap.size w wr)
    (fun _ wr => (hi + 1 - intOf ((wr.cell? ⟨w.heap.size, 0, none⟩).getD undef)).toNat)
  case atStart =>
    refine ⟨lo, (hi + 1 - lo).toNat, [], by omega, by omega, by omega, by simp, rfl, World.ownsRow_nil _ _ _ _, ?_, ?_, ((Below.refl _ _).alloc (Nat.le_refl _) _).alloc (by simp) _⟩
    · rw [Below.heap_alloc _ _ _ (by simp)]; exact heap_alloc_new w _
    · have := heap_alloc_new (w.alloc (.cells #[.int .u64 lo] 88)) (.cells #[.int .u64 (hi + 1)] 88)
      simpa using this
  case round =>
    obtain ⟨a, f, L, ha0, ha1, hf, hL, hcut, hown, hb1, hb2, hnx⟩ := hrel
    have hc1 := cell_of_one hb1
    have hc2 := cell_of_one hb2
    by_cases hlt : a < hi + 1
    · cases f with
      | zero => omega
      | succ f =>
        have hpos := p2_pos (pick a (hi + 1) 32)
        have hpk := (pick_ok a (hi + 1) 32 hlt).2
        go_wp2_with fail
        refine (next_any _ _ _ _ _ hb1 hb2 (by omega) hlt (by omega)).mono ?_
        rintro e w1 ⟨rfl, hg1, hh1⟩
        have hown1 := owns_kept_lt hown hg1 (by omega)
        have hb2' : w1.heap[w.heap.size + 1]? = _ := (hg1.block _ (lt_of_block hb2) (by simp)).trans hb2
        have hnx1 := hnx.grown hg1 hnx.size (fun k hk => by injection hk with hk; omega)
        go_wp2_with (at_builtin; refine wpList_append_own _ rfl _ _ 43 rfl (w.heap.size + 2) 25 i0 _ 2 16 Tryd.underlying43 hi0 hz0 hz1 hz2 rfl (by decide) _ _ _ rfl (hown1.alloc _) ⟨w1.heap.size, 0, none⟩ 1 1 [.int .u32 a, .int .i64 (32 - (pick a (hi + 1) 32 : Int))] rfl rfl ?c1 ?c2 ?c3 ?c4 ?c5 ?_)
        case c1 => exact cells_new w1 [.int .u32 a, .int .i64 (32 - (pick a (hi + 1) 32 : Int))] 25
        case c2 => intro u hu; simp at hu; rcases hu with rfl | rfl <;> rfl
        case c3 => unfold maxLen; omega
        case c4 => omega
        case c5 => have := lt_of_block hb2'; simp; omega
        intro v2 w2 hown2 hg2 _
        have hlb2 := lt_of_block hb2'
        have hb1'' : w2.heap[w.heap.size]? = some (.cells #[.int .u64 (a + p2 (pick a (hi + 1) 32))] 88 (0, 0)) := by
          rw [heap_kept_lt (hown1.alloc _) hg2 (by omega) (by simp; omega), Below.heap_alloc _ _ _ (by omega)]; exact hh1
        have hb2'' : w2.heap[w.heap.size + 1]? = some (.cells #[.int .u64 (hi + 1)] 88 (0, 0)) := by
          rw [heap_kept_lt (hown1.alloc _) hg2 (by omega) (by simp; omega), Below.heap_alloc _ _ _ (by omega)]; exact hb2'
        have hnx2 := below_row (hnx1.alloc hnx1.size (.cells #[.int .u32 a, .int .i64 (32 - (pick a (hi + 1) 32 : Int))] 25)) (hown1.alloc _) hg2 (by have := hnx1.size; simp; omega) (by omega)
        have HC1 := Lib.hid hc1
        clear hnx hnx1 hown hown1 hb1 hb2 hc1 hc2 hg1 hg2 hb2' hh1
        go_wp2
        go_roundw
        case rel =>
          refine ⟨a + p2 (pick a (hi + 1) 32), f, L ++ [(a, 32 - (pick a (hi + 1) 32 : Int))], by omega, by omega, by omega, by simp; omega, ?_, by rw [pcells_snoc]; simpa using hown2, hb1'', hb2'', hnx2⟩
          show L ++ [_] ++ _ = _
          rw [← hcut.out, cutL_step _ _ _ hlt, List.append_assoc]; rfl
        case measure => rw [cell_of_one hb1'', HC1.out]; simp [intOf]; omega
    · go_wp2
      go_ret2
      have hz : cutL (hi + 1) f a = [] := cutL_done _ _ _ (by omega)
      have hcut' := hcut.out
      rw [hz, List.append_nil] at hcut'
      subst hcut'
      exact ⟨_, rfl, owns_base hown (by omega), hnx⟩

end Go.Proofs.YtdlhpiknifcehaaDoor
