/-
  Walks over the addresses' layer: In; the program's and the reference's.
-/
import Derived.Test.YtdlhpiknifcehaaDoorAddr
namespace Go.Proofs.YtdlhpiknifcehaaDoor
open Go Go.RowKit Go.Sort

theorem in_no (x a n : Int) (h : ¬ chk a n = 0) : false = inB x a n := by unfold inB; simp [h]
theorem in_low (x a n : Int) (h : ¬ a ≤ x) : false = inB x a n := by unfold inB; simp [h]
theorem in_sub (x a n : Int) (hr : chk a n = 0) (h : a ≤ x) : decide (x - a < sz n) = inB x a n := by
  unfold inB
  rw [decide_eq_decide]
  constructor
  · intro h1; exact ⟨hr, h, by omega⟩
  · intro h1; omega
theorem in_andNot (x a n : Int) (hx : 0 ≤ x) (hx' : x < 4294967296) (hr : chk a n = 0) : (bits .andNot .u32 x (sz n - 1) == a) = inB x a n := by
  obtain ⟨_, _, h2⟩ := chk_ok hr
  rw [andNot_sz x n hx hx']
  unfold inB
  rw [Bool.eq_iff_iff, beq_iff_eq, decide_eq_true_iff]
  have hp := sz_pos n
  have e1 := Int.emod_add_mul_ediv x (sz n)
  have l1 := Int.emod_nonneg x (by omega : sz n ≠ 0)
  have l2 := Int.emod_lt_of_pos x (by omega : 0 < sz n)
  constructor
  · intro h
    exact ⟨hr, by omega, by omega⟩
  · intro ⟨_, h3, h4⟩
    have e2 := Int.emod_add_mul_ediv a (sz n)
    rw [h2] at e2
    have h5 : x % sz n = x - a := by
      have : (x - a + sz n * (a / sz n)) % sz n = (x - a) % sz n := Int.add_mul_emod_self_left ..
      rw [show x - a + sz n * (a / sz n) = x by omega, Int.emod_eq_of_lt (a := x - a) (by omega) (by omega)] at this
      exact this
    omega

set_option maxHeartbeats 400000 in
theorem addrIn_any (x a n : Int) (w : World) (hx : 0 ≤ x) (hx' : x < 4294967296) (ha : 0 ≤ a) (hb : a < 4294967296) :
    Calls Tryd.prog 23 #[.int .u32 x, .agg #[.int .u32 a, .int .i64 n]] w fun e w' => e = .returned (.bool (inB x a n)) ∧ Below w.heap.size w w' := by
  by_cases hr : chk a n = 0
  · obtain ⟨h0, h1, h2⟩ := chk_ok hr
    have hd : (chk a n == 0) = true := by simp [hr]
    have hE := Lib.hid (in_andNot x a n hx hx' hr)
    clear hr h2
    go_enter Tryd.func23, Tryd.ntmps23
    go_wp2
    have c0 : (w.alloc (.cells #[.int .u32 a, .int .i64 n] 25)).cell? ⟨w.heap.size, 0, none⟩ = some (.int .u32 a) := by simp
    have c1 : (w.alloc (.cells #[.int .u32 a, .int .i64 n] 25)).cell? ⟨w.heap.size, 1, none⟩ = some (.int .i64 n) := by simp
    have hbW : Below w.heap.size w (w.alloc (.cells #[.int .u32 a, .int .i64 n] 25)) := (Below.refl _ _).alloc (Nat.le_refl _) _
    generalize w.alloc (.cells #[.int .u32 a, .int .i64 n] 25) = W at *
    have F0 := cell_regrown c0
    have F1 := cell_regrown c1
    refine wp_region_quiet_below (by kernel_rfl) (by kernel_rfl) ?_
    repeat (first | go_big_quiet_step ((first | (go_at_call 55; exact Calls.regrown_of (addrCheck_any _ _ _ (by omega) (by omega))) | (go_at_call 61; exact regrown_left (behind_any _ _ (by omega) (by omega))))) | quiet_step ((first | (go_at_call 55; exact Calls.regrown_of (addrCheck_any _ _ _ (by omega) (by omega))) | (go_at_call 61; exact regrown_left (behind_any _ _ (by omega) (by omega))))))
    refine wpQuiet_nil ?_
    intro _ hw'
    obtain ⟨⟨nq, osq⟩, hw''⟩ := hw'
    subst hw''
    go_wp2
    go_ret
    exact ⟨ret_bool (hE.out), (hbW.trans ((below_regrown W nq osq).mono hbW.size))⟩
  · have hd : (chk a n == 0) = false := by simp [hr]
    have hE := Lib.hid (in_no x a n hr)
    clear hr
    go_enter Tryd.func23, Tryd.ntmps23
    go_wp2
    have c0 : (w.alloc (.cells #[.int .u32 a, .int .i64 n] 25)).cell? ⟨w.heap.size, 0, none⟩ = some (.int .u32 a) := by simp
    have c1 : (w.alloc (.cells #[.int .u32 a, .int .i64 n] 25)).cell? ⟨w.heap.size, 1, none⟩ = some (.int .i64 n) := by simp
    have hbW : Below w.heap.size w (w.alloc (.cells #[.int .u32 a, .int .i64 n] 25)) := (Below.refl _ _).alloc (Nat.le_refl _) _
    generalize w.alloc (.cells #[.int .u32 a, .int .i64 n] 25) = W at *
    have F0 := cell_regrown c0
    have F1 := cell_regrown c1
    refine wp_region_quiet_below (by kernel_rfl) (by kernel_rfl) ?_
    repeat (first | go_big_quiet_step (((go_at_call 55; exact Calls.regrown_of (addrCheck_any _ _ _ (by omega) (by omega))))) | quiet_step (((go_at_call 55; exact Calls.regrown_of (addrCheck_any _ _ _ (by omega) (by omega))))))
    refine wpQuiet_nil ?_
    intro _ hw'
    obtain ⟨⟨nq, osq⟩, hw''⟩ := hw'
    subst hw''
    go_wp2
    go_ret
    exact ⟨ret_bool (hE.out), (hbW.trans ((below_regrown W nq osq).mono hbW.size))⟩

end Go.Proofs.YtdlhpiknifcehaaDoor
