/-
  Walks of the library's sort at numbers of 32 bits: the choice of a pivot (written by wip/gen/genpq3.py).
-/
import Derived.Test.YthgmmajoinkblaaPq2
import Derived.Sort.WalkD2
import Derived.Sort.Walk11
import Derived.Sort.Grow
namespace Go.Proofs.Ythgmmajoinkblaa
open Go Go.RowKit Go.Sort

/-- The world in which the counter of swaps says t. -/
abbrev CntW (w : World) (sb n t : Nat) : World := putRow (Value.int .i64) (Sort.ahead w n) sb 0 (one t)
theorem CntW.again (w : World) (sb n m s t : Nat) : CntW (CntW w sb n s) sb m t = CntW w sb (n + m) t := one_one _ _ _ _ _ _ _
theorem aside32 {w : World} {blk off sb n t : Nat} {d : Array Int} (h : Holds e32 w blk off d) (hne : sb ≠ blk) : Holds e32 (CntW w sb n t) blk off d := fun j hj =>
  ⟨by rw [cell?_putRow_other _ _ _ _ _ _ (Or.inl (Ne.symm hne))]; exact (h j hj).1, by rw [frozen?_putRow]; exact (h j hj).2⟩
set_option maxHeartbeats 1000000 in
theorem order2U_any (d : Array Int) (blk off cap a b sb s : Nat) (w : World) (hH : Holds e32 w blk off d) (ha : a < d.size) (hb : b < d.size) (hS : Holds (Value.int .i64) w sb 0 (one s)) (hs : s < 4611686018427387904) :
    Calls Try.prog 99 #[.slice (some ⟨blk, off, none⟩) d.size cap, .int .i64 a, .int .i64 b, .pointer (some ⟨sb, 0, none⟩)] w fun e w' =>
      e = .returned (.tuple #[.int .i64 (order2 ltInt d a b s).1, .int .i64 (order2 ltInt d a b s).2.1]) ∧ ∃ n, w' = CntW w sb n (order2 ltInt d a b s).2.2 := by
  have ca := (hH a ha).1
  have cb := (hH b hb).1
  obtain ⟨cs, fs⟩ := one_cell hS
  have ea : d[a]! = d[a] := getElem!_pos d a ha
  have eb : d[b]! = d[b] := getElem!_pos d b hb
  have HS := Lib.hid hS
  clear hS hH
  cases hlt : ltInt d[b] d[a]
  · have e2 : order2 ltInt d a b s = (a, b, s) := by simp [order2, ea, eb, hlt]
    have E2 := Lib.hid e2
    clear e2
    go_enter Try.func99, Try.ntmps99
    go_wp2
    go_region_with (go_at_call 76; refine (lessU_any _ _ _).mono ?_; rintro e w' ⟨rfl, rfl⟩)
    all_goals (try go_wp2)
    all_goals (go_ret2; rw [E2.out]; refine ⟨rfl, 1, ?_⟩; rw [CntW, putRow_ahead, putRow_self _ _ _ _ _ HS.out]; rfl)
  · have e2 : order2 ltInt d a b s = (b, a, s + 1) := by simp [order2, ea, eb, hlt]
    have E2 := Lib.hid e2
    clear e2
    go_enter Try.func99, Try.ntmps99
    go_wp2
    go_region_with (go_at_call 76; refine (lessU_any _ _ _).mono ?_; rintro e w' ⟨rfl, rfl⟩)
    all_goals (try go_wp2)
    all_goals (go_ret2; rw [E2.out]; refine ⟨rfl, 1, ?_⟩; rw [CntW, putRow_ahead, ← one_set HS.out (s + 1)]; simp [drew_eq_ahead])
set_option maxRecDepth 100000 in
set_option maxHeartbeats 1000000 in
theorem medianU_any (d : Array Int) (blk off cap a b c sb s : Nat) (w : World) (hH : Holds e32 w blk off d) (ha : a < d.size) (hb : b < d.size) (hc : c < d.size) (hne : sb ≠ blk) (hS : Holds (Value.int .i64) w sb 0 (one s)) (hs : s + 3 < 4611686018427387904) :
    Calls Try.prog 94 #[.slice (some ⟨blk, off, none⟩) d.size cap, .int .i64 a, .int .i64 b, .int .i64 c, .pointer (some ⟨sb, 0, none⟩)] w fun e w' =>
      e = .returned (.int .i64 (median ltInt d a b c s).1) ∧ ∃ n, w' = CntW w sb n (median ltInt d a b c s).2 := by
  obtain ⟨x1, y1, t1, h1⟩ : ∃ x1 y1 t1, order2 ltInt d a b s = (x1, y1, t1) := ⟨_, _, _, rfl⟩
  obtain ⟨x2, y2, t2, h2⟩ : ∃ x2 y2 t2, order2 ltInt d y1 c t1 = (x2, y2, t2) := ⟨_, _, _, rfl⟩
  obtain ⟨x3, y3, t3, h3⟩ : ∃ x3 y3 t3, order2 ltInt d x1 x2 t2 = (x3, y3, t3) := ⟨_, _, _, rfl⟩
  have hm : median ltInt d a b c s = (y3, t3) := by simp only [median, h1, h2, h3]
  have l1 := order2_lt d s ha hb
  have s1 := order2_swaps d a b s
  rw [h1] at l1 s1
  simp only [] at l1 s1
  have l2 := order2_lt d t1 l1.2 hc
  have s2 := order2_swaps d y1 c t1
  rw [h2] at l2 s2
  simp only [] at l2 s2
  have c1 := order2U_any d blk off cap a b sb s w hH ha hb hS (by omega)
  have c2 : ∀ n, _ := fun n => order2U_any d blk off cap y1 c sb t1 (CntW w sb n t1) (aside32 hH hne) l1.2 hc (holds_one hS) (by omega)
  have c3 : ∀ n, _ := fun n => order2U_any d blk off cap x1 x2 sb t2 (CntW w sb n t2) (aside32 hH hne) l1.1 l2.1 (holds_one hS) (by omega)
  rw [h1] at c1
  simp only [h2] at c2
  simp only [h3] at c3
  have C1 := Lib.hid c1
  have C2 := Lib.hid c2
  have C3 := Lib.hid c3
  rw [hm]
  clear c1 c2 c3 h1 h2 h3 hm hH hS
  go_enter Try.func94, Try.ntmps94
  go_wp2_with fail
  refine C1.out.mono ?_
  rintro e w' ⟨rfl, n1, rfl⟩
  go_wp2_with fail
  refine (C2.out n1).mono ?_
  rintro e w' ⟨rfl, n2, hw2⟩
  rw [CntW.again] at hw2
  subst hw2
  go_wp2_with fail
  refine (C3.out (n1 + n2)).mono ?_
  rintro e w' ⟨rfl, n3, hw3⟩
  rw [CntW.again] at hw3
  subst hw3
  go_wp2_with fail
  go_ret
  exact ⟨rfl, n1 + n2 + n3, rfl⟩
set_option maxRecDepth 100000 in
set_option maxHeartbeats 1000000 in
theorem medianAdjU_any (d : Array Int) (blk off cap a sb s : Nat) (w : World) (hH : Holds e32 w blk off d) (ha0 : 1 ≤ a) (ha : a + 1 < d.size) (hsz : d.size < 4611686018427387904) (hne : sb ≠ blk) (hS : Holds (Value.int .i64) w sb 0 (one s)) (hs : s + 3 < 4611686018427387904) :
    Calls Try.prog 93 #[.slice (some ⟨blk, off, none⟩) d.size cap, .int .i64 a, .pointer (some ⟨sb, 0, none⟩)] w fun e w' =>
      e = .returned (.int .i64 (medianAdjacent ltInt d a s).1) ∧ ∃ n, w' = CntW w sb n (medianAdjacent ltInt d a s).2 := by
  have c1 := medianU_any d blk off cap (a - 1) a (a + 1) sb s w hH (by omega) (by omega) ha hne hS hs
  have C1 := Lib.hid c1
  clear c1 hH hS
  go_enter Try.func93, Try.ntmps93
  go_wp2_with fail
  rw [show ((a : Int) - 1) = ((a - 1 : Nat) : Int) by omega, show ((a : Int) + 1) = ((a + 1 : Nat) : Int) by omega]
  refine C1.out.mono ?_
  rintro e w' ⟨rfl, n, rfl⟩
  go_wp2_with fail
  go_ret
  exact ⟨rfl, n, rfl⟩

set_option maxRecDepth 100000 in
set_option maxHeartbeats 4000000 in
theorem pivotU_any (blk off cap a b : Nat) (d : Array Int) (w : World) (hH : Holds e32 w blk off d) (hblk : blk < w.heap.size) (hab : a < b) (hb : b ≤ d.size) (hsz : d.size < 4611686018427387904) :
    Calls Try.prog 73 #[.slice (some ⟨blk, off, none⟩) d.size cap, .int .i64 a, .int .i64 b] w fun e w' =>
      e = .returned (.tuple #[.int .i64 (choosePivot ltInt d a b).1, .int .i64 (hintCode (choosePivot ltInt d a b).2)]) ∧ ∃ n os, w' = grow (Sort.ahead w n) os := by
  have hne : w.heap.size ≠ blk := by omega
  obtain ⟨W0, hW0⟩ : ∃ W0, W0 = w.alloc (.cells #[.int .i64 0] 3) := ⟨_, rfl⟩
  have hH0 : Holds e32 W0 blk off d := by rw [hW0, alloc_eq_grow]; exact holds_grow _ _ _ _ _ _ hblk hH
  have hS0 : Holds (Value.int .i64) W0 w.heap.size 0 (one 0) := fun j hj => by
    obtain rfl : j = 0 := by simpa using hj
    rw [hW0]
    simp
  have hGr : ∀ N S : Nat, ∃ n os, CntW W0 w.heap.size N S = grow (Sort.ahead w n) os := fun N S => by
    rw [hW0, CntW, alloc_eq_grow, ahead_grow]
    obtain ⟨os, _, h⟩ := putRow_grow_new (Value.int .i64) (Sort.ahead w N) #[.cells #[.int .i64 0] 3] w.heap.size 0 (one S) (Nat.le_refl _)
    exact ⟨N, os, h⟩
  have hcs : ∀ N S : Nat, (CntW W0 w.heap.size N S).cell? ⟨w.heap.size, 0, none⟩ = some (.int .i64 (S : Int)) := fun N S => (one_cell (holds_one (n := N) (t := S) hS0)).1
  have h00 : W0 = CntW W0 w.heap.size 0 0 := (putRow_self _ _ _ _ _ hS0).symm
  have MA : ∀ (x s N : Nat), 1 ≤ x → x + 1 < d.size → s + 3 < 4611686018427387904 → Calls Try.prog 93 #[.slice (some ⟨blk, off, none⟩) d.size cap, .int .i64 (x : Int), .pointer (some ⟨w.heap.size, 0, none⟩)] (CntW W0 w.heap.size N s) fun e w' => e = .returned (.int .i64 ((medianAdjacent ltInt d x s).1 : Int)) ∧ ∃ N', w' = CntW W0 w.heap.size N' (medianAdjacent ltInt d x s).2 := fun x s N h1 h2 h3 =>
    (medianAdjU_any d blk off cap x w.heap.size s _ (aside32 hH0 hne) h1 h2 hsz hne (holds_one hS0) h3).mono fun _ _ ⟨he, n, hw⟩ => ⟨he, N + n, by rw [hw, CntW.again]⟩
  have MD : ∀ (x y z s N : Nat), x < d.size → y < d.size → z < d.size → s + 3 < 4611686018427387904 → Calls Try.prog 94 #[.slice (some ⟨blk, off, none⟩) d.size cap, .int .i64 (x : Int), .int .i64 (y : Int), .int .i64 (z : Int), .pointer (some ⟨w.heap.size, 0, none⟩)] (CntW W0 w.heap.size N s) fun e w' => e = .returned (.int .i64 ((median ltInt d x y z s).1 : Int)) ∧ ∃ N', w' = CntW W0 w.heap.size N' (median ltInt d x y z s).2 := fun x y z s N h1 h2 h3 h4 =>
    (medianU_any d blk off cap x y z w.heap.size s _ (aside32 hH0 hne) h1 h2 h3 hne (holds_one hS0) h4).mono fun _ _ ⟨he, n, hw⟩ => ⟨he, N + n, by rw [hw, CntW.again]⟩
  have HG := Lib.hid hGr
  have HC := Lib.hid hcs
  obtain ⟨Wc, hWc⟩ : ∃ Wc : Nat → Nat → World, Wc = fun N S => CntW W0 w.heap.size N S := ⟨_, rfl⟩
  have e0 : w.alloc (.cells #[.int .i64 0] 3) = Wc 0 0 := by rw [hWc, ← hW0]; exact h00
  have hG : ∀ N S, ∃ n os, Wc N S = grow (Sort.ahead w n) os := by rw [hWc]; exact hGr
  have hC : ∀ N S, (Wc N S).cell? ⟨w.heap.size, 0, none⟩ = some (.int .i64 (S : Int)) := by rw [hWc]; exact hcs
  replace MA : ∀ (x s N : Nat), 1 ≤ x → x + 1 < d.size → s + 3 < 4611686018427387904 → Calls Try.prog 93 #[.slice (some ⟨blk, off, none⟩) d.size cap, .int .i64 (x : Int), .pointer (some ⟨w.heap.size, 0, none⟩)] (Wc N s) fun e w' => e = .returned (.int .i64 ((medianAdjacent ltInt d x s).1 : Int)) ∧ ∃ N', w' = Wc N' (medianAdjacent ltInt d x s).2 := by rw [hWc]; exact MA
  replace MD : ∀ (x y z s N : Nat), x < d.size → y < d.size → z < d.size → s + 3 < 4611686018427387904 → Calls Try.prog 94 #[.slice (some ⟨blk, off, none⟩) d.size cap, .int .i64 (x : Int), .int .i64 (y : Int), .int .i64 (z : Int), .pointer (some ⟨w.heap.size, 0, none⟩)] (Wc N s) fun e w' => e = .returned (.int .i64 ((median ltInt d x y z s).1 : Int)) ∧ ∃ N', w' = Wc N' (median ltInt d x y z s).2 := by rw [hWc]; exact MD
  clear hWc hW0 hH0 hS0 hGr hcs h00 hH HG HC
  have MAh := Lib.hid MA
  have MDh := Lib.hid MD
  clear MA MD
  rw [choosePivot_eq]
  obtain ⟨I, hI⟩ : ∃ I : Nat, I = a + (b - a) / 4 * 1 := ⟨_, rfl⟩
  obtain ⟨J, hJ⟩ : ∃ J : Nat, J = a + (b - a) / 4 * 2 := ⟨_, rfl⟩
  obtain ⟨K, hK⟩ : ∃ K : Nat, K = a + (b - a) / 4 * 3 := ⟨_, rfl⟩
  have eI : ((a : Int) + ((b : Int) - (a : Int)) / 4) = (I : Int) := by omega
  have eJ : ((a : Int) + ((b : Int) - (a : Int)) / 4 * 2) = (J : Int) := by omega
  have eK : ((a : Int) + ((b : Int) - (a : Int)) / 4 * 3) = (K : Int) := by omega
  by_cases h8 : b - a ≥ 8
  · have h8z : (8 : Int) ≤ (b : Int) - (a : Int) := by omega
    by_cases h50 : b - a ≥ 50
    · have h50z : (50 : Int) ≤ (b : Int) - (a : Int) := by omega
      obtain ⟨i1, s1, h1⟩ : ∃ i1 s1, medianAdjacent ltInt d I 0 = (i1, s1) := ⟨_, _, rfl⟩
      obtain ⟨j1, s2, h2⟩ : ∃ j1 s2, medianAdjacent ltInt d J s1 = (j1, s2) := ⟨_, _, rfl⟩
      obtain ⟨k1, s3, h3⟩ : ∃ k1 s3, medianAdjacent ltInt d K s2 = (k1, s3) := ⟨_, _, rfl⟩
      obtain ⟨p, s, h4⟩ : ∃ p s, median ltInt d i1 j1 k1 s3 = (p, s) := ⟨_, _, rfl⟩
      have hraw : rawPivot ltInt d a b = (p, s) := by simp only [rawPivot, if_pos h8, if_pos h50, ← hI, ← hJ, ← hK, h1, h2, h3, h4]
      have m1 := medianAdjacent_mem ltInt d I 0; rw [h1] at m1
      have m2 := medianAdjacent_mem ltInt d J s1; rw [h2] at m2
      have m3 := medianAdjacent_mem ltInt d K s2; rw [h3] at m3
      have n1 := medianAdjacent_count ltInt d I 0; rw [h1] at n1
      have n2 := medianAdjacent_count ltInt d J s1; rw [h2] at n2
      have n3 := medianAdjacent_count ltInt d K s2; rw [h3] at n3
      simp only [] at m1 m2 m3 n1 n2 n3
      have c1 := MAh.out I 0 0 (by omega) (by omega) (by omega)
      have c2 : ∀ N, _ := fun N => MAh.out J s1 N (by omega) (by omega) (by omega)
      have c3 : ∀ N, _ := fun N => MAh.out K s2 N (by omega) (by omega) (by omega)
      have c4 : ∀ N, _ := fun N => MDh.out i1 j1 k1 s3 N (by omega) (by omega) (by omega) (by omega)
      rw [h1] at c1
      simp only [h2] at c2
      simp only [h3] at c3
      simp only [h4] at c4
      have C1 := Lib.hid c1
      have C2 := Lib.hid c2
      have C3 := Lib.hid c3
      have C4 := Lib.hid c4
      rw [hraw]
      show Calls Try.prog _ _ w fun e w' => e = .returned (.tuple #[.int .i64 (p : Int), .int .i64 (hintCode (hintOf s))]) ∧ ∃ n os, w' = grow (Sort.ahead w n) os
      clear h1 h2 h3 h4 hI hJ hK m1 m2 m3 c1 c2 c3 c4 n1 n2 n3 hraw
      go_enter Try.func73, Try.ntmps73
      go_wp2_with fail
      refine C1.out.mono ?_
      rintro e w' ⟨rfl, N1, rfl⟩
      go_wp2_with fail
      refine (C2.out _).mono ?_
      rintro e w' ⟨rfl, N2, rfl⟩
      go_wp2_with fail
      refine (C3.out _).mono ?_
      rintro e w' ⟨rfl, N3, rfl⟩
      go_wp2_with fail
      refine (C4.out _).mono ?_
      rintro e w' ⟨rfl, N4, rfl⟩
      rcases Nat.eq_zero_or_pos s with hs0 | hs0
      · subst hs0
        have hz : ((0 : Nat) : Int) = 0 := rfl
        go_wp2_with fail
        go_ret2
        exact ⟨rfl, hG _ _⟩
      · have hz : ((s : Int) == 0) = false := by simp; omega
        by_cases h12 : s = 12
        · subst h12
          go_wp2_with fail
          go_ret2
          exact ⟨rfl, hG _ _⟩
        · have hz2 : ((s : Int) == 12) = false := by simp; omega
          have hint : hintOf s = .unknown := by unfold hintOf; rw [if_neg (by omega), if_neg h12]
          go_wp2_with fail
          go_ret2
          exact ⟨by rw [hint]; rfl, hG _ _⟩
    · have h50z : ¬ (50 : Int) ≤ (b : Int) - (a : Int) := by omega
      obtain ⟨p, s, h4⟩ : ∃ p s, median ltInt d I J K 0 = (p, s) := ⟨_, _, rfl⟩
      have hraw : rawPivot ltInt d a b = (p, s) := by simp only [rawPivot, if_pos h8, if_neg h50, ← hI, ← hJ, ← hK, h4]
      have c4 := MDh.out I J K 0 0 (by omega) (by omega) (by omega) (by omega)
      rw [h4] at c4
      have C4 := Lib.hid c4
      rw [hraw]
      show Calls Try.prog _ _ w fun e w' => e = .returned (.tuple #[.int .i64 (p : Int), .int .i64 (hintCode (hintOf s))]) ∧ ∃ n os, w' = grow (Sort.ahead w n) os
      clear h4 hI hJ hK c4 hraw
      go_enter Try.func73, Try.ntmps73
      go_wp2_with fail
      refine C4.out.mono ?_
      rintro e w' ⟨rfl, N4, rfl⟩
      rcases Nat.eq_zero_or_pos s with hs0 | hs0
      · subst hs0
        have hz : ((0 : Nat) : Int) = 0 := rfl
        go_wp2_with fail
        go_ret2
        exact ⟨rfl, hG _ _⟩
      · have hz : ((s : Int) == 0) = false := by simp; omega
        by_cases h12 : s = 12
        · subst h12
          go_wp2_with fail
          go_ret2
          exact ⟨rfl, hG _ _⟩
        · have hz2 : ((s : Int) == 12) = false := by simp; omega
          have hint : hintOf s = .unknown := by unfold hintOf; rw [if_neg (by omega), if_neg h12]
          go_wp2_with fail
          go_ret2
          exact ⟨by rw [hint]; rfl, hG _ _⟩
  · have h8z : ¬ (8 : Int) ≤ (b : Int) - (a : Int) := by omega
    have hraw : rawPivot ltInt d a b = (J, 0) := by simp only [rawPivot, if_neg h8, ← hJ]
    rw [hraw]
    show Calls Try.prog _ _ w fun e w' => e = .returned (.tuple #[.int .i64 (J : Int), .int .i64 (hintCode (hintOf 0))]) ∧ ∃ n os, w' = grow (Sort.ahead w n) os
    clear hI hJ hK hraw
    go_enter Try.func73, Try.ntmps73
    go_wp2_with fail
    go_ret2
    exact ⟨rfl, hG _ _⟩
end Go.Proofs.Ythgmmajoinkblaa
