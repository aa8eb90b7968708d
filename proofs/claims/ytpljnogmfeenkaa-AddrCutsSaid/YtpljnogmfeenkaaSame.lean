/-
  The walk of the reference's Same.
-/
import Derived.Test.YtpljnogmfeenkaaCut
namespace Go.Proofs.Ytpljnogmfeenkaa
open Go Go.RowKit

theorem pcells_fst {L : List (Int × Int)} {k : Nat} {p : Int × Int} (h : L[k]? = some p) : (pcells L)[k * 2 + 0]? = some (.int .u32 p.1) := by
  induction L generalizing k with
  | nil => simp at h
  | cons q L ih =>
    cases k with
    | zero => simp at h; subst h; rfl
    | succ k =>
      have := ih (k := k) (by simpa using h)
      simpa [pcells, Nat.add_mul] using this
theorem pcells_snd {L : List (Int × Int)} {k : Nat} {p : Int × Int} (h : L[k]? = some p) : (pcells L)[k * 2 + 1]? = some (.int .i64 p.2) := by
  induction L generalizing k with
  | nil => simp at h
  | cons q L ih =>
    cases k with
    | zero => simp at h; subst h; rfl
    | succ k =>
      have := ih (k := k) (by simpa using h)
      simpa [pcells, Nat.add_mul] using this

theorem ne_at {L M : List (Int × Int)} {k : Nat} {p q : Int × Int} (hp : L[k]? = some p) (hq : M[k]? = some q) (h : ¬ (p.1 = q.1 ∧ p.2 = q.2)) : false = decide (L = M) := by
  symm
  rw [decide_eq_false_iff_not]
  rintro rfl
  rw [hp] at hq
  injection hq with hq
  subst hq
  exact h ⟨rfl, rfl⟩
theorem take_at {L M : List (Int × Int)} {k : Nat} {p q : Int × Int} (hp : L[k]? = some p) (hq : M[k]? = some q) (h1 : p.1 = q.1) (h2 : p.2 = q.2) (h : L.take k = M.take k) : L.take (k + 1) = M.take (k + 1) := by
  have e : p = q := Prod.ext h1 h2
  subst e
  rw [List.take_add_one, List.take_add_one, hp, hq, h]

set_option maxHeartbeats 1000000 in
theorem same_any (L M : List (Int × Int)) (v1 v2 : Value) (w : World) (h1 : Rd w w.heap.size 2 v1 L.length (pcells L)) (h2 : Rd w w.heap.size 2 v2 M.length (pcells M)) (hb : L.length ≤ 4294967296) :
    Calls Try.prog 17 #[v1, v2] w fun e w' => e = .returned (.bool (decide (L = M))) ∧ Below w.heap.size w w' := by
  by_cases hlen : L.length = M.length
  · by_cases h0 : L.length = 0
    · obtain ⟨A, c, rfl, hc⟩ := h1.form
      obtain ⟨A', c', rfl, hc'⟩ := h2.form
      have e1 : L = [] := List.eq_nil_of_length_eq_zero h0
      have e2 : M = [] := List.eq_nil_of_length_eq_zero (by omega)
      subst e1 e2
      go_enter Try.func17, Try.ntmps17
      go_wp2
      refine wp_loop_rounds 1 ?_
      rw [rounds_succ]
      go_wp2
      go_ret
      exact ⟨rfl, Below.refl _ _⟩
    · obtain ⟨b, off, c, rfl, hc, hbB, hcell⟩ := h1.posAt (by omega)
      obtain ⟨b', off', c', rfl, hc', hbB', hcell'⟩ := h2.posAt (by omega)
      rw [← hlen]
      have HL := Lib.hid hlen
      clear h1 h2 hlen
      go_enter Try.func17, Try.ntmps17
      go_wp2
      go_loopw [5] (fun i wr => ∃ k : Nat, i = .int .i64 k ∧ k ≤ L.length ∧ Hid (L.take k = M.take k) ∧ Below w.heap.size w wr) (fun i _ => L.length - (intOf i).toNat)
      case atStart => exact ⟨0, rfl, by omega, rfl, Below.refl _ _⟩
      case round =>
        obtain ⟨k, rfl, hk, htake, hnx⟩ := hrel
        by_cases hlt : k < L.length
        · obtain ⟨p, hp⟩ : ∃ p, L[k]? = some p := ⟨_, List.getElem?_eq_getElem hlt⟩
          obtain ⟨q, hq⟩ : ∃ q, M[k]? = some q := ⟨_, List.getElem?_eq_getElem (by rw [← HL.out]; exact hlt)⟩
          have ca : wr.cell? ⟨b, off + k * 2, none⟩ = _ := (hnx.cell hbB).trans (hcell k 0 _ (pcells_fst hp))
          have cb : wr.cell? ⟨b, off + k * 2 + 1, none⟩ = _ := (hnx.cell hbB).trans (hcell k 1 _ (pcells_snd hp))
          have da : wr.cell? ⟨b', off' + k * 2, none⟩ = _ := (hnx.cell hbB').trans (hcell' k 0 _ (pcells_fst hq))
          have db : wr.cell? ⟨b', off' + k * 2 + 1, none⟩ = _ := (hnx.cell hbB').trans (hcell' k 1 _ (pcells_snd hq))
          have hI : (k : Int) < (L.length : Int) := by omega
          have HP := Lib.hid hp
          have HQ := Lib.hid hq
          clear hp hq hcell hcell'
          by_cases e1 : p.1 = q.1
          · have E1 := Lib.hid e1
            have e1' : (p.1 != q.1) = false := by simp [e1]
            clear e1
            by_cases e2 : p.2 = q.2
            · have E2 := Lib.hid e2
              have e2' : (p.2 != q.2) = false := by simp [e2]
              clear e2
              go_wp2
              go_quiet (fail)
              go_wp2
              exact ⟨⟨k + 1, by go_num, by omega, take_at HP.out HQ.out E1.out E2.out htake.out, below_drewN hnx nq⟩, by simp only [intOf]; omega⟩
            · have E2 := Lib.hid e2
              have e2' : (p.2 != q.2) = true := by simp [e2]
              clear e2
              go_wp2
              go_quiet (fail)
              go_wp2
              go_ret
              exact ⟨ret_bool (ne_at HP.out HQ.out (fun h => E2.out h.2)), below_drewN hnx nq⟩
          · have E1 := Lib.hid e1
            have e1' : (p.1 != q.1) = true := by simp [e1]
            clear e1
            go_wp2
            go_quiet (fail)
            go_wp2
            go_ret
            exact ⟨ret_bool (ne_at HP.out HQ.out (fun h => E1.out h.1)), below_drewN hnx nq⟩
        · go_wp2
          go_ret
          refine ⟨ret_bool ?_, hnx⟩
          have ht := htake.out
          rw [List.take_of_length_le (by omega), List.take_of_length_le (by rw [← HL.out]; omega)] at ht
          simp [ht]
  · obtain ⟨A, c, rfl, hc⟩ := h1.form
    obtain ⟨A', c', rfl, hc'⟩ := h2.form
    have hI : (((L.length : Nat) : Int) != ((M.length : Nat) : Int)) = true := by rw [bne_iff_ne]; omega
    have HL := Lib.hid hlen
    clear h1 h2 hlen
    go_enter Try.func17, Try.ntmps17
    go_wp2
    go_ret
    refine ⟨ret_bool ?_, Below.refl _ _⟩
    symm
    rw [decide_eq_false_iff_not]
    rintro rfl
    exact HL.out rfl

end Go.Proofs.Ytpljnogmfeenkaa
