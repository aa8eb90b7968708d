/-
  Walks over the document's addresses: Read.
-/
import Derived.Test.YtdlhpiknifcehaaDoorBackMath
import Derived.Deep.DeepCutAuto
namespace Go.Proofs.YtdlhpiknifcehaaDoor
open Go Go.RowKit Go.Sort

/-- What Read hands back. -/
def rdV (l : List UInt8) (m : Nat) : Int := match readB l m with | some n => n | none => -1
theorem rdV_none {l : List UInt8} {m : Nat} (h : readB l m = none) : rdV l m = -1 := by unfold rdV; rw [h]
theorem rdV_some {l : List UInt8} {m n : Nat} (h : readB l m = some n) : rdV l m = n := by unfold rdV; rw [h]
theorem dec_long : ∀ (k n : Nat), k + 1 < (Lib.decDigits n).length → 10 ^ (k + 1) ≤ n
  | 0, n, h => by
    rcases (show n < 10 ∨ 10 ≤ n by omega) with h1 | h1
    · rw [decDigits_small h1] at h; simp at h
    · simpa using h1
  | k + 1, n, h => by
    rcases (show n < 10 ∨ 10 ≤ n by omega) with h1 | h1
    · rw [decDigits_small h1] at h; simp at h
    · rw [decDigits_big (by omega), List.length_append] at h
      have := dec_long k (n / 10) (by simp at h; omega)
      rw [Nat.pow_succ]; omega
theorem readB_long {l : List UInt8} {m : Nat} (hm : m < 1000000000000) (h : 12 < l.length) : readB l m = none := by
  cases e : readB l m with
  | none => rfl
  | some n =>
    obtain ⟨h1, h2⟩ := readB_some.1 e
    have := dec_long 11 n (by rw [h1]; omega)
    omega
theorem readB_zero {l : List UInt8} {m : Nat} (h : 1 < l.length) (h0 : l.head? = some 48) : readB l m = none := by unfold readB; rw [if_pos (Or.inr (Or.inl ⟨h, h0⟩))]
theorem readB_nil (m : Nat) : readB [] m = none := by unfold readB; rw [if_pos (Or.inl rfl)]
theorem readB_bad {l : List UInt8} {m : Nat} {i : Nat} {c : UInt8} (h : l[i]? = some c) (hc : isDig c = false) : readB l m = none := by
  unfold readB
  rw [if_pos (Or.inr (Or.inr ?_))]
  cases e : l.all isDig with
  | false => rfl
  | true => have := List.all_eq_true.1 e c (List.mem_of_getElem? h); rw [hc] at this; cases this
theorem readB_good {l : List UInt8} {m : Nat} (h0 : l ≠ []) (hz : ¬ (1 < l.length ∧ l.head? = some 48)) (hall : l.all isDig = true) : readB l m = if valD 0 l ≤ m then some (valD 0 l) else none := by
  unfold readB
  rw [if_neg]
  rintro (h | h | h)
  · exact h0 h
  · exact hz h
  · rw [hall] at h; cases h
theorem valD_take {l : List UInt8} {i : Nat} {c : UInt8} (h : l[i]? = some c) : valD 0 (l.take (i + 1)) = 10 * valD 0 (l.take i) + (c.toNat - 48) := by
  rw [List.take_add_one, h, valD_append]
  rfl
theorem valD_lt : ∀ (k : Nat) (l : List UInt8), l.length ≤ k → l.all isDig = true → valD 0 l < 10 ^ k := by
  intro k
  induction k with
  | zero => intro l hl _; obtain rfl := List.length_eq_zero_iff.1 (Nat.le_zero.1 hl); decide
  | succ k ih =>
    intro l hl hall
    by_cases hne : l = []
    · subst hne; exact Nat.pow_pos (by decide)
    · obtain ⟨r, c, rfl⟩ : ∃ r c, l = r ++ [c] := ⟨l.dropLast, l.getLast hne, (List.dropLast_concat_getLast hne).symm⟩
      rw [valD_append]
      simp at hl hall
      have := ih r hl (by simpa using hall.1)
      have hc := (of_dig c hall.2).2
      simp only [valD, List.foldl_cons, List.foldl_nil] at this ⊢
      rw [Nat.pow_succ]; omega

set_option maxRecDepth 100000 in
set_option maxHeartbeats 2000000 in
theorem refRead_any (s : ByteArray) (m : Nat) (hm : m < 1000000) (w : World) :
    Calls Tryd.prog 53 #[.string s, .int .i64 m] w fun e w' => e = .returned (.int .i64 (rdV s.data.toList m)) ∧ w = w' := by
  have hs : s.size = s.data.toList.length := (Array.length_toList).symm
  have t9 := Tryd.underlying9
  have u9 := run_underlying t9
  have t5 := Tryd.underlying5
  by_cases h0 : s.data.toList = []
  · have hr := Lib.hid (rdV_none (by rw [h0]; exact readB_nil m) : rdV s.data.toList m = -1)
    have he : (s.toList == ([] : List UInt8)) = true := by rw [list_of, h0]; rfl
    go_enter Tryd.func53, Tryd.ntmps53
    go_wp2
    go_ret
    exact ⟨by rw [hr.out]; rfl, rfl⟩
  · have he : (s.toList == ([] : List UInt8)) = false := by rw [list_of]; simpa using h0
    by_cases h12 : 12 < s.size
    · have hr := Lib.hid (rdV_none (readB_long (m := m) (by omega) (by omega)) : rdV s.data.toList m = -1)
      have hI : (s.size : Int) > 12 := by omega
      clear h0 hs
      go_enter Tryd.func53, Tryd.ntmps53
      go_wp2
      go_ret
      exact ⟨by rw [hr.out]; rfl, rfl⟩
    · have hI : ¬ (s.size : Int) > 12 := by omega
      obtain ⟨c, r, hl⟩ : ∃ c r, s.data.toList = c :: r := by
        cases h : s.data.toList with
        | nil => exact absurd h h0
        | cons c r => exact ⟨c, r, rfl⟩
      have hc0 := Lib.hid (show s.data.toList[0]? = some c by rw [hl]; rfl)
      have hpos : 0 < s.size := by rw [hs, hl]; simp
      have hs0 : s[0]'hpos = c := by
        have h1 : s.data[0]? = some c := by rw [← Array.getElem?_toList, hl]; rfl
        exact Option.some.inj ((Array.getElem?_eq_getElem (xs := s.data) (i := 0) hpos).symm.trans h1)
      obtain ⟨v0, hv0⟩ : ∃ v : Int, ((s[0]'hpos).toNat : Int) = v := ⟨_, rfl⟩
      have hvc : v0 = c.toNat := by rw [← hv0, hs0]
      clear hs0
      by_cases hz : 1 < s.size ∧ c = 48
      · have hr := Lib.hid (rdV_none (readB_zero (m := m) (by omega) (by rw [hl, hz.2]; rfl)) : rdV s.data.toList m = -1)
        have hI2 : (s.size : Int) > 1 := by omega
        obtain rfl : v0 = 48 := by rw [hvc, hz.2]; rfl
        clear h0 hl hs hvc hz hc0
        go_enter Tryd.func53, Tryd.ntmps53
        go_wp2
        go_ret
        exact ⟨by rw [hr.out]; rfl, rfl⟩
      · have hz1 : ¬ (s.size : Int) > 1 ∨ ((s.size : Int) > 1 ∧ (v0 == 48) = false) := by
          by_cases h1 : 1 < s.size
          · right
            refine ⟨by omega, ?_⟩
            have h2 : c ≠ 48 := fun h => hz ⟨h1, h⟩
            simp
            intro h3
            apply h2
            apply UInt8.toNat_inj.1
            have : (48 : UInt8).toNat = 48 := rfl
            omega
          · left; omega
        have hG := Lib.hid (fun hall => readB_good (l := s.data.toList) (m := m) h0 (fun h => hz ⟨by omega, by rw [hl] at h; simpa using h.2⟩) hall)
        have HS := Lib.hid hs
        clear h0 hl hs hvc hz hc0
        have hq : ∀ (i : Nat) (h : i < s.size), Hid (s.data.toList[i]? = some (s[i]'h)) := fun i h => Lib.hid (by
          rw [Array.getElem?_toList]
          exact Array.getElem?_eq_getElem (xs := s.data) (i := i) h)
        have HQ := Lib.hid hq
        clear hq
        rcases hz1 with hz1 | ⟨hz1, hz2⟩
        all_goals
          go_enter Tryd.func53, Tryd.ntmps53
          go_wp2
          go_loop [5, 6] (fun n i => ∃ k a : Nat, i = .int .i64 k ∧ n = .int .i64 a ∧ k ≤ s.size ∧ Hid (a = valD 0 (s.data.toList.take k)) ∧ Hid ((s.data.toList.take k).all isDig = true)) (fun _ i => s.size - (intOf i).toNat)
          case atStart => exact ⟨0, 0, rfl, rfl, by omega, Lib.hid (by simp [valD]), Lib.hid (by simp)⟩
          case round =>
            obtain ⟨k, a, rfl, rfl, hk, ha, hall⟩ := hrel
            by_cases hlt : k < s.size
            · have hx := HQ.out k hlt
              have hI3 : (k : Int) < (s.size : Int) := by omega
              have hI4 : (0 : Int) ≤ k := by omega
              have ha12 : a < 1000000000000 := by
                rw [ha.out]
                exact valD_lt 12 _ (by rw [List.length_take]; omega) hall.out
              obtain ⟨v, hv⟩ : ∃ v : Int, ((s[k]'hlt).toNat : Int) = v := ⟨_, rfl⟩
              have hvn : 0 ≤ v := by omega
              have hxv := Lib.hid (show (s[k]'hlt).toNat = v.toNat by omega)
              rcases (show v < 48 ∨ (48 ≤ v ∧ 57 < v) ∨ (48 ≤ v ∧ v ≤ 57) by omega) with h1 | ⟨h1, h2⟩ | ⟨h1, h2⟩
              · have hr := Lib.hid (rdV_none (readB_bad (m := m) hx.out (by unfold isDig; rw [hxv.out]; simp; omega)) : rdV s.data.toList m = -1)
                have d1 : decide (v < 48) = true := by simp [h1]
                clear hx hxv ha12 hvn
                go_wp2
                go_ret
                exact ⟨by rw [hr.out]; rfl, rfl⟩
              · have hr := Lib.hid (rdV_none (readB_bad (m := m) hx.out (by unfold isDig; rw [hxv.out]; simp; omega)) : rdV s.data.toList m = -1)
                have d1 : decide (v < 48) = false := by simp; omega
                have d2 : decide (57 < v) = true := by simp [h2]
                clear hx hxv ha12 hvn
                go_wp2
                go_ret
                exact ⟨by rw [hr.out]; rfl, rfl⟩
              · have hdig : isDig (s[k]'hlt) = true := by unfold isDig; rw [hxv.out]; simp; omega
                have ha2 := Lib.hid (show 10 * a + (v.toNat - 48) = valD 0 (s.data.toList.take (k + 1)) by rw [valD_take hx.out, hxv.out, ← ha.out])
                have hall2 := Lib.hid (show (s.data.toList.take (k + 1)).all isDig = true by rw [List.take_add_one, hx.out, List.all_append, hall.out]; simp [hdig])
                have d1 : decide (v < 48) = false := by simp; omega
                have d2 : decide (57 < v) = false := by simp; omega
                have w1 : wrap64 (10 * (a : Int)) = 10 * (a : Int) := by unfold wrap64; omega
                have w2 : (v - 48) % 256 = v - 48 := by omega
                have w3 : wrap64 (10 * (a : Int) + (v - 48)) = 10 * (a : Int) + (v - 48) := by unfold wrap64; omega
                have hpos2 := Lib.hid (show (10 * (a : Int) + (v - 48)) = ((10 * a + (v.toNat - 48) : Nat) : Int) by omega)
                clear hx hxv hdig ha hall hvn
                go_wp2
                clear w1 w2 w3 d1 d2
                exact ⟨⟨k + 1, 10 * a + (v.toNat - 48), by go_num, vint hpos2.out, by omega, ha2, hall2⟩, by simp only [intOf]; omega⟩
            · obtain rfl : k = s.size := by omega
              have hall3 : s.data.toList.all isDig = true := by have h := hall.out; rw [HS.out, List.take_length] at h; exact h
              have ha3 : a = valD 0 s.data.toList := by have h := ha.out; rw [HS.out, List.take_length] at h; exact h
              have hg := hG.out hall3
              rw [← ha3] at hg
              by_cases hm2 : a ≤ m
              · have hr := Lib.hid (rdV_some (by rw [hg, if_pos hm2]) : rdV s.data.toList m = a)
                have d1 : ¬ (a : Int) > (m : Int) := by omega
                clear hg ha3 hall3 ha hall
                go_wp2
                go_ret
                exact ⟨by rw [hr.out]; rfl, rfl⟩
              · have hr := Lib.hid (rdV_none (by rw [hg, if_neg hm2]) : rdV s.data.toList m = -1)
                have d1 : (a : Int) > (m : Int) := by omega
                clear hg ha3 hall3 ha hall
                go_wp2
                go_ret
                exact ⟨by rw [hr.out]; rfl, rfl⟩
end Go.Proofs.YtdlhpiknifcehaaDoor
