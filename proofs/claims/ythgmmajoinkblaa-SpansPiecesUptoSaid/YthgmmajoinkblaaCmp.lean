/-
  Walks over package cmp at the types of this seat: Compare and Or.
-/
import Derived.Test.YthgmmajoinkblaaKit
import Derived.Test.YthgmmajoinkblaaProg
namespace Go.Proofs.Ythgmmajoinkblaa
open Go Go.RowKit

/-- -1, 0, 1. -/
def cmpI (x y : Int) : Int := if x < y then -1 else if y < x then 1 else 0
theorem cmpI_lt {x y : Int} (h : x < y) : cmpI x y = -1 := if_pos h
theorem cmpI_gt {x y : Int} (h : y < x) : cmpI x y = 1 := by unfold cmpI; rw [if_neg (by omega), if_pos h]
theorem cmpI_eq (x : Int) : cmpI x x = 0 := by unfold cmpI; rw [if_neg (by omega), if_neg (by omega)]
/-- The first that is not 0. -/
def firstNZ : List Int → Int
  | [] => 0
  | x :: l => if x = 0 then firstNZ l else x
theorem firstNZ_take (l : List Int) (k : Nat) (x : Int) (hx : l[k]? = some x) (h : ∀ j, j < k → l[j]? = some 0) (hn : x ≠ 0) : firstNZ l = x := by
  induction l generalizing k with
  | nil => simp at hx
  | cons y l ih =>
    cases k with
    | zero => simp at hx; subst hx; unfold firstNZ; rw [if_neg hn]
    | succ k =>
      have h0 := h 0 (by omega)
      simp at h0
      subst h0
      unfold firstNZ; rw [if_pos rfl]
      exact ih k (by simpa using hx) (fun j hj => by simpa using h (j + 1) (by omega))
theorem firstNZ_zero (l : List Int) (h : ∀ j, j < l.length → l[j]? = some 0) : firstNZ l = 0 := by
  induction l with
  | nil => rfl
  | cons y l ih =>
    have h0 := h 0 (by simp)
    simp at h0
    subst h0
    unfold firstNZ; rw [if_pos rfl]
    exact ih (fun j hj => by simpa using h (j + 1) (by simp; omega))

set_option maxHeartbeats 400000 in
theorem cmpAddr_any (x y : Int) (w : World) : Calls Try.prog 28 #[.int .u32 x, .int .u32 y] w fun e w' => e = .returned (.int .i64 (cmpI x y)) ∧ w = w' := by
  have hx : (x != x) = false := by simp
  have hy : (y != y) = false := by simp
  rcases Int.lt_trichotomy x y with h | h | h
  · have hE := Lib.hid (cmpI_lt h)
    go_enter Try.func28, Try.ntmps28
    go_wp2
    go_ret
    exact ⟨ret_int hE.out.symm, rfl⟩
  · subst h
    have hE := Lib.hid (cmpI_eq x)
    go_enter Try.func28, Try.ntmps28
    go_wp2
    go_ret
    exact ⟨ret_int hE.out.symm, rfl⟩
  · have hE := Lib.hid (cmpI_gt h)
    have h' : ¬ x < y := by omega
    go_enter Try.func28, Try.ntmps28
    go_wp2
    go_ret
    exact ⟨ret_int hE.out.symm, rfl⟩

set_option maxHeartbeats 400000 in
theorem cmpInt_any (x y : Int) (w : World) : Calls Try.prog 27 #[.int .i64 x, .int .i64 y] w fun e w' => e = .returned (.int .i64 (cmpI x y)) ∧ w = w' := by
  have hx : (x != x) = false := by simp
  have hy : (y != y) = false := by simp
  rcases Int.lt_trichotomy x y with h | h | h
  · have hE := Lib.hid (cmpI_lt h)
    go_enter Try.func27, Try.ntmps27
    go_wp2
    go_ret
    exact ⟨ret_int hE.out.symm, rfl⟩
  · subst h
    have hE := Lib.hid (cmpI_eq x)
    go_enter Try.func27, Try.ntmps27
    go_wp2
    go_ret
    exact ⟨ret_int hE.out.symm, rfl⟩
  · have hE := Lib.hid (cmpI_gt h)
    have h' : ¬ x < y := by omega
    go_enter Try.func27, Try.ntmps27
    go_wp2
    go_ret
    exact ⟨ret_int hE.out.symm, rfl⟩


set_option maxHeartbeats 400000 in
theorem cmpU32_any (x y : Int) (w : World) : Calls Try.prog 52 #[.int .u32 x, .int .u32 y] w fun e w' => e = .returned (.int .i64 (cmpI x y)) ∧ w = w' := by
  have hx : (x != x) = false := by simp
  have hy : (y != y) = false := by simp
  rcases Int.lt_trichotomy x y with h | h | h
  · have hE := Lib.hid (cmpI_lt h)
    go_enter Try.func52, Try.ntmps52
    go_wp2
    go_ret
    exact ⟨ret_int hE.out.symm, rfl⟩
  · subst h
    have hE := Lib.hid (cmpI_eq x)
    go_enter Try.func52, Try.ntmps52
    go_wp2
    go_ret
    exact ⟨ret_int hE.out.symm, rfl⟩
  · have hE := Lib.hid (cmpI_gt h)
    have h' : ¬ x < y := by omega
    go_enter Try.func52, Try.ntmps52
    go_wp2
    go_ret
    exact ⟨ret_int hE.out.symm, rfl⟩

set_option maxHeartbeats 400000 in
theorem cmpOr_any (l : List Int) (v : Value) (w : World) (h : Rd w w.heap.size 1 v l.length (l.map (Value.int .i64))) (hlen : l.length ≤ 4294967296) :
    Calls Try.prog 25 #[v] w fun e w' => e = .returned (.int .i64 (firstNZ l)) ∧ w = w' := by
  by_cases h0 : l.length = 0
  · obtain ⟨A, c, rfl, hc⟩ := h.form
    have e1 : l = [] := List.eq_nil_of_length_eq_zero h0
    subst e1
    go_enter Try.func25, Try.ntmps25
    go_wp2
    refine wp_loop_rounds 1 ?_
    rw [rounds_succ]
    go_wp2
    go_ret
    exact ⟨rfl, rfl⟩
  · obtain ⟨b, off, c, rfl, hc, hbB, hcell⟩ := h.pos (by omega)
    clear h
    go_enter Try.func25, Try.ntmps25
    go_wp2
    go_loop [8] (fun i => ∃ k : Nat, i = .int .i64 k ∧ k ≤ l.length ∧ ∀ j, j < k → l[j]? = some 0) (fun i => l.length - (intOf i).toNat)
    case atStart => exact ⟨0, rfl, by omega, fun j hj => absurd hj (by omega)⟩
    case round =>
      obtain ⟨k, rfl, hk, hz⟩ := hrel
      have HZ := Lib.hid hz
      clear hz
      by_cases hlt : k < l.length
      · obtain ⟨x, hx⟩ : ∃ x, l[k]? = some x := ⟨_, List.getElem?_eq_getElem hlt⟩
        have ca : w.cell? ⟨b, off + k, none⟩ = some (.int .i64 x) := hcell k _ (by simp [hx])
        have hI : (k : Int) < (l.length : Int) := by omega
        have HX := Lib.hid hx
        have HC := Lib.hid hcell
        clear hx hcell
        by_cases e : x = 0
        · have E := Lib.hid e
          have e' : (x != 0) = false := by simp [e]
          clear e
          go_wp2
          go_round
          case rel =>
            refine ⟨k + 1, by go_num, by omega, fun j hj => ?_⟩
            by_cases hjk : j = k
            · subst hjk; rw [HX.out, E.out]
            · exact HZ.out j (by omega)
          case measure => simp only [intOf]; omega
        · have E := Lib.hid e
          have e' : (x != 0) = true := by simp [e]
          clear e
          go_wp2
          go_ret
          exact ⟨ret_int (firstNZ_take l k x HX.out HZ.out E.out).symm, rfl⟩
      · go_wp2
        go_ret
        exact ⟨ret_int (firstNZ_zero l (fun j hj => HZ.out j (by omega))).symm, rfl⟩

end Go.Proofs.Ythgmmajoinkblaa
