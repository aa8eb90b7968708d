/-
  Walks over the addresses' layer: Cmp, and the law's same.
-/
import Derived.Test.YtpljnogmfeenkaaAddr6
import Derived.Test.YtpljnogmfeenkaaCmp
namespace Go.Proofs.Ytpljnogmfeenkaa
open Go Go.RowKit Go.Sort

/-- The order of prefixes. -/
def cmpP (a n b m : Int) : Int := firstNZ [cmpI a b, cmpI n m]

set_option maxHeartbeats 1000000 in
theorem addrCmp_any (a n b m : Int) (w : World) :
    Calls Try.prog 47 #[.agg #[.int .u32 a, .int .i64 n], .agg #[.int .u32 b, .int .i64 m]] w fun e w' => e = .returned (.int .i64 (cmpP a n b m)) ∧ Below w.heap.size w w' := by
  go_enter Try.func47, Try.ntmps47
  go_wp2
  obtain ⟨k0, k1⟩ := blk2 w (.cells #[.int .u32 a, .int .i64 n] 30) (.cells #[.int .u32 b, .int .i64 m] 30)
  obtain ⟨c0, c1, _, _⟩ := two_cells k0
  obtain ⟨c2, c3, _, _⟩ := two_cells k1
  have hsz := lt_of_block k1
  have hbW := below2 w (.cells #[.int .u32 a, .int .i64 n] 30) (.cells #[.int .u32 b, .int .i64 m] 30)
  clear k0 k1
  generalize (w.alloc (.cells #[.int .u32 a, .int .i64 n] 30)).alloc (.cells #[.int .u32 b, .int .i64 m] 30) = W at *
  go_region_held3 (fun w' => w'.cell? ⟨w.heap.size, 0, none⟩ = some (.int .u32 a) ∧ w'.cell? ⟨w.heap.size, 1, none⟩ = some (.int .i64 n) ∧ w'.cell? ⟨w.heap.size + 1, 0, none⟩ = some (.int .u32 b) ∧ w'.cell? ⟨w.heap.size + 1, 1, none⟩ = some (.int .i64 m)) (go_keep)
    (first | (go_at_call 104; refine (cmpAddr_any _ _ _).mono ?_; rintro e w' ⟨rfl, rfl⟩) | (go_at_call 105; refine (cmpInt_any _ _ _).mono ?_; rintro e w' ⟨rfl, rfl⟩) | (go_at_call 103; refine (cmpOr_any [cmpI a b, cmpI n m] _ _ (Rd.of_blk (cs := #[.int .i64 (cmpI a b), .int .i64 (cmpI n m)]) (t := 3) (heap_drew (heap_alloc_new _ _)) (Nat.le_refl _) rfl) (by simp)).mono ?_; rintro e w' ⟨rfl, rfl⟩))
  all_goals go_wp2
  go_ret
  exact ⟨rfl, (hbW.alloc hbW.size _).drew⟩


set_option maxHeartbeats 1000000 in
theorem refCmp_any (a n b m : Int) (w : World) :
    Calls Try.prog 48 #[.agg #[.int .u32 a, .int .i64 n], .agg #[.int .u32 b, .int .i64 m]] w fun e w' => e = .returned (.int .i64 (cmpP a n b m)) ∧ Below w.heap.size w w' := by
  rcases Int.lt_trichotomy a b with h | h | h
  · have hE : Hid (-1 = cmpP a n b m) := by show -1 = firstNZ _; rw [cmpI_lt h]; rfl
    have h' : decide (a < b) = true := by simp [h]
    go_enter Try.func48, Try.ntmps48
    go_wp2
    go_ret
    exact ⟨ret_int hE.out, below2 w _ _⟩
  · subst h
    have e0 : decide (a < a) = false := by simp
    have e1 : (a == a) = true := by simp
    rcases Int.lt_trichotomy n m with h | h | h
    · have hE : Hid (-1 = cmpP a n a m) := by show -1 = firstNZ _; rw [cmpI_eq, cmpI_lt h]; rfl
      have h' : decide (n < m) = true := by simp [h]
      go_enter Try.func48, Try.ntmps48
      go_wp2
      go_ret
      exact ⟨ret_int hE.out, below2 w _ _⟩
    · subst h
      have hE : Hid (0 = cmpP a n a n) := by show 0 = firstNZ _; rw [cmpI_eq, cmpI_eq]; rfl
      have e2 : decide (n < n) = false := by simp
      have e3 : (n == n) = true := by simp
      go_enter Try.func48, Try.ntmps48
      go_wp2
      go_ret
      exact ⟨ret_int hE.out, below2 w _ _⟩
    · have hE : Hid (1 = cmpP a n a m) := by show 1 = firstNZ _; rw [cmpI_eq, cmpI_gt h]; rfl
      have e2 : decide (n < m) = false := by simp; omega
      have e3 : (n == m) = false := by simp; omega
      go_enter Try.func48, Try.ntmps48
      go_wp2
      go_ret
      exact ⟨ret_int hE.out, below2 w _ _⟩
  · have hE : Hid (1 = cmpP a n b m) := by show 1 = firstNZ _; rw [cmpI_gt h]; rfl
    have e0 : decide (a < b) = false := by simp; omega
    have e1 : (a == b) = false := by simp; omega
    go_enter Try.func48, Try.ntmps48
    go_wp2
    go_ret
    exact ⟨ret_int hE.out, below2 w _ _⟩

set_option maxHeartbeats 400000 in
theorem lawSame_any (a n : Int) (w : World) :
    Calls Try.prog 34 #[.agg #[.int .u32 a, .int .i64 n], .agg #[.int .u32 a, .int .i64 n]] w fun e w' => e = .returned (.bool true) ∧ Below w.heap.size w w' := by
  have e1 : (a == a) = true := by simp
  have e3 : (n == n) = true := by simp
  go_enter Try.func34, Try.ntmps34
  go_wp2
  go_ret
  exact ⟨rfl, below2 w _ _⟩

end Go.Proofs.Ytpljnogmfeenkaa
