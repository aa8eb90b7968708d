/-
  Joined texts: Rd1, At1, At2, Fx1, Rd2, Rd3, RdP, At5, Rd4, Rd5, Rd7, Rd8.
-/
import Derived.Test.YtpmoepipoafegaaGreatDoorMRoutesTexts7
import Derived.Test.YtpmoepipoafegaaGreatDoorMRoutesTexts5
import Derived.Lib.ConvBytes
import Derived.Deep.DeepCutAuto
import Derived.Test.YtpmoepipoafegaaGreatDoorMRoutesTexts6
import Derived.Test.YtpmoepipoafegaaGreatDoorMRoutesTexts4
import Derived.Test.YtpmoepipoafegaaGreatDoorMRoutesTexts9
import Derived.Test.YtpmoepipoafegaaGreatDoorMRoutesTexts8
import Derived.Laws.AppendOwnNone
import Derived.Test.YtpmoepipoafegaaGreatDoorMRoutesTexts11
/-
  Walks over the document's routes: from, fine, Name, number (written by wip/gen/genrd1.py).
-/
namespace Go.Proofs.YtpmoepipoafegaaGreatDoor
open Go Go.RowKit Go.Sort

theorem fromW_none {f : Int} (h0 : 0 ≤ f) (h : f = 0 ∨ 9 ≤ f) : fromW f = [] := by
  rcases h with rfl | h
  · rfl
  · unfold fromW
    rw [List.getElem?_eq_none (by show 9 ≤ f.toNat; omega)]
    rfl
theorem refFrom_any (f : Int) (h0 : 0 ≤ f) (w : World) : Calls Tryz.prog 24 #[.int .u8 f] w fun e w' => e = .returned (.string ⟨(fromW f).toArray⟩) ∧ Below w.heap.size w w' := by
  rcases (by omega : f = 1 ∨ f = 2 ∨ f = 3 ∨ f = 4 ∨ f = 5 ∨ f = 6 ∨ f = 7 ∨ f = 8 ∨ (f = 0 ∨ 9 ≤ f)) with rfl | rfl | rfl | rfl | rfl | rfl | rfl | rfl | h
  all_goals try (
    go_enter Tryz.func24, Tryz.ntmps24
    go_wp2
    go_ret
    exact ⟨rfl, Below.refl _ _⟩)
  have hn := Lib.hid (fromW_none h0 h)
  have d1 : ¬ f = 1 := by omega
  have d2 : ¬ f = 2 := by omega
  have d3 : ¬ f = 3 := by omega
  have d4 : ¬ f = 4 := by omega
  have d5 : ¬ f = 5 := by omega
  have d6 : ¬ f = 6 := by omega
  have d7 : ¬ f = 7 := by omega
  have d8 : ¬ f = 8 := by omega
  clear h
  go_enter Tryz.func24, Tryz.ntmps24
  go_wp2
  go_ret
  exact ⟨by rw [hn.out]; rfl, Below.refl _ _⟩
theorem refFine_any (n : Int) (w : World) : Calls Tryz.prog 25 #[.int .i64 n] w fun e w' => e = .returned (.bool (fineB n)) ∧ Below w.heap.size w w' := by
  by_cases h0 : 0 ≤ n
  · by_cases h1 : n ≤ 2147483647
    · have hf := Lib.hid (fine_iff.2 ⟨h0, h1⟩)
      go_enter Tryz.func25, Tryz.ntmps25
      go_wp2
      go_ret
      exact ⟨by rw [hf.out]; rfl, Below.refl _ _⟩
    · have hf := Lib.hid (show fineB n = false by cases h : fineB n with | false => rfl | true => exact absurd (fine_iff.1 h).2 h1)
      go_enter Tryz.func25, Tryz.ntmps25
      go_wp2
      go_ret
      exact ⟨by rw [hf.out]; rfl, Below.refl _ _⟩
  · have hf := Lib.hid (show fineB n = false by cases h : fineB n with | false => rfl | true => exact absurd (fine_iff.1 h).1 h0)
    go_enter Tryz.func25, Tryz.ntmps25
    go_wp2
    go_ret
    exact ⟨by rw [hf.out]; rfl, Below.refl _ _⟩

set_option maxRecDepth 100000 in
set_option maxHeartbeats 8000000 in
theorem refNumR_any (s : ByteArray) (w : World) :
    Calls Tryz.prog 39 #[.string s] w fun e w' => e = .returned (.int .i64 (num08 s.data.toList)) ∧ Below w.heap.size w w' := by
  have hs : s.size = s.data.toList.length := (Array.length_toList).symm
  have t9 := Tryz.underlying9
  have u9 := run_underlying t9
  have t5 := Tryz.underlying5
  have HS := Lib.hid hs
  have hq : ∀ (i : Nat) (h : i < s.size), Hid (s.data.toList[i]? = some (s[i]'h)) := fun i h => Lib.hid (by
    rw [Array.getElem?_toList]
    exact Array.getElem?_eq_getElem (xs := s.data) (i := i) h)
  have HQ := Lib.hid hq
  clear hq hs
  go_enter Tryz.func39, Tryz.ntmps39
  go_wp2
  go_loop [3, 4] (fun n i => ∃ k a : Nat, i = .int .i64 k ∧ n = .int .i64 a ∧ k ≤ s.size ∧ k ≤ 11 ∧ Hid (a = valD 0 (s.data.toList.take k)) ∧ Hid ((s.data.toList.take k).all isDig = true)) (fun _ i => s.size - (intOf i).toNat)
  case atStart => exact ⟨0, 0, rfl, rfl, by omega, by omega, Lib.hid (by simp [valD]), Lib.hid (by simp)⟩
  case round =>
    obtain ⟨k, a, rfl, rfl, hk, hk11, ha, hall⟩ := hrel
    by_cases hlt : k < s.size
    · have hx := HQ.out k hlt
      have hI3 : (k : Int) < (s.size : Int) := by omega
      have hI4 : (0 : Int) ≤ k := by omega
      have ha12 : a < 100000000000 := by
        rw [ha.out]
        exact valD_lt 11 _ (by rw [List.length_take]; omega) hall.out
      obtain ⟨v, hv⟩ : ∃ v : Int, ((s[k]'hlt).toNat : Int) = v := ⟨_, rfl⟩
      have hvn : 0 ≤ v := by omega
      have hxv := Lib.hid (show (s[k]'hlt).toNat = v.toNat by omega)
      rcases (show v < 48 ∨ (48 ≤ v ∧ 57 < v) ∨ (48 ≤ v ∧ v ≤ 57) by omega) with h1 | ⟨h1, h2⟩ | ⟨h1, h2⟩
      · have hr := Lib.hid (num08_bad hx.out (by unfold isDig; rw [hxv.out]; simp; omega) : num08 s.data.toList = -1)
        have d1 : decide (v < 48) = true := by simp [h1]
        clear hx hxv ha12 hvn
        go_wp2
        go_ret
        exact ⟨by rw [hr.out]; rfl, Below.refl _ _⟩
      · have hr := Lib.hid (num08_bad hx.out (by unfold isDig; rw [hxv.out]; simp; omega) : num08 s.data.toList = -1)
        have d1 : decide (v < 48) = false := by simp; omega
        have d2 : decide (57 < v) = true := by simp [h2]
        clear hx hxv ha12 hvn
        go_wp2
        go_ret
        exact ⟨by rw [hr.out]; rfl, Below.refl _ _⟩
      · have d1 : decide (v < 48) = false := by simp; omega
        have d2 : decide (57 < v) = false := by simp; omega
        by_cases h10 : 10 < k
        · have hr := Lib.hid (num08_long (l := s.data.toList) (by have := HS.out; omega))
          have d3 : (k : Int) > 10 := by omega
          clear hx hxv ha12 hvn
          go_wp2
          go_ret
          exact ⟨by rw [hr.out]; rfl, Below.refl _ _⟩
        · have d3 : ¬ (k : Int) > 10 := by omega
          have hdig : isDig (s[k]'hlt) = true := by unfold isDig; rw [hxv.out]; simp; omega
          have ha2 := Lib.hid (show 10 * a + (v.toNat - 48) = valD 0 (s.data.toList.take (k + 1)) by rw [valD_take hx.out, hxv.out, ← ha.out])
          have hall2 := Lib.hid (show (s.data.toList.take (k + 1)).all isDig = true by rw [List.take_add_one, hx.out, List.all_append, hall.out]; simp [hdig])
          have w1 : wrap64 ((a : Int) * 10) = (a : Int) * 10 := by unfold wrap64; omega
          have w2 : (v - 48) % 256 = v - 48 := by omega
          have w3 : wrap64 ((a : Int) * 10 + (v - 48)) = (a : Int) * 10 + (v - 48) := by unfold wrap64; omega
          have hpos2 := Lib.hid (show ((a : Int) * 10 + (v - 48)) = ((10 * a + (v.toNat - 48) : Nat) : Int) by omega)
          clear hx hxv hdig ha hall hvn
          go_wp2
          clear w1 w2 w3 d1 d2 d3
          exact ⟨⟨k + 1, 10 * a + (v.toNat - 48), by go_num, vint hpos2.out, by omega, by omega, ha2, hall2⟩, by simp only [intOf]; omega⟩
    · obtain rfl : k = s.size := by omega
      have hall3 : s.data.toList.all isDig = true := by have h := hall.out; rw [HS.out, List.take_length] at h; exact h
      have ha3 : a = valD 0 s.data.toList := by have h := ha.out; rw [HS.out, List.take_length] at h; exact h
      by_cases h0 : s.data.toList = []
      · have he : (s.toList == ([] : List UInt8)) = true := by rw [list_of, h0]; rfl
        have he2 : s.toList.isEmpty = true := by rw [list_of, h0]; rfl
        have hr := Lib.hid (show num08 s.data.toList = -1 by rw [h0]; exact num08_nil)
        clear ha3 hall3 ha hall h0
        go_wp2
        go_ret
        exact ⟨by rw [hr.out]; rfl, Below.refl _ _⟩
      · have he : (s.toList == ([] : List UInt8)) = false := by rw [list_of]; simpa using h0
        have he2 : s.toList.isEmpty = false := by rw [list_of]; simpa using h0
        have hr := Lib.hid ((num08_good h0 hall3 (by have := HS.out; omega)).trans (by rw [← ha3]) : num08 s.data.toList = (a : Int))
        clear ha3 hall3 ha hall h0
        go_wp2
        go_ret
        exact ⟨by rw [hr.out]; rfl, Below.refl _ _⟩

set_option maxRecDepth 100000 in
set_option maxHeartbeats 16000000 in
theorem refName_any (s : ByteArray) (w : World) :
    Calls Tryz.prog 26 #[.string s] w fun e w' => e = .returned (.bool (nameB s.data.toList)) ∧ Below w.heap.size w w' := by
  have hs : s.size = s.data.toList.length := (Array.length_toList).symm
  have t9 := Tryz.underlying9
  have u9 := run_underlying t9
  have t5 := Tryz.underlying5
  have HS := Lib.hid hs
  have hq : ∀ (i : Nat) (h : i < s.size), Hid (s.data.toList[i]? = some (s[i]'h)) := fun i h => Lib.hid (by
    rw [Array.getElem?_toList]
    exact Array.getElem?_eq_getElem (xs := s.data) (i := i) h)
  have HQ := Lib.hid hq
  clear hq hs
  by_cases h0 : s.data.toList = []
  · have he : (s.toList == ([] : List UInt8)) = true := by rw [list_of, h0]; rfl
    have he2 : s.toList.isEmpty = true := by rw [list_of, h0]; rfl
    have hr := Lib.hid (show nameB s.data.toList = false by rw [h0]; rfl)
    clear h0
    go_enter Tryz.func26, Tryz.ntmps26
    go_wp2
    go_ret
    exact ⟨by rw [hr.out]; rfl, Below.refl _ _⟩
  have he : (s.toList == ([] : List UInt8)) = false := by rw [list_of]; simpa using h0
  have he2 : s.toList.isEmpty = false := by rw [list_of]; simpa using h0
  have H0 := Lib.hid h0
  clear h0
  by_cases h32 : 32 < s.size
  · have hI : (s.size : Int) > 32 := by omega
    have hr := Lib.hid (name_long (l := s.data.toList) (by have := HS.out; omega))
    go_enter Tryz.func26, Tryz.ntmps26
    go_wp2
    go_ret
    exact ⟨by rw [hr.out]; rfl, Below.refl _ _⟩
  have hI : ¬ (s.size : Int) > 32 := by omega
  go_enter Tryz.func26, Tryz.ntmps26
  go_wp2
  go_loop [3, 4, 5] (fun i _ _ => ∃ k : Nat, i = .int .i64 k ∧ k ≤ s.size ∧ Hid (∀ (i : Nat) (c : UInt8), i < k → s.data.toList[i]? = some c → letB c = true ∨ (i ≠ 0 ∧ restB c = true))) (fun i _ _ => s.size - (intOf i).toNat)
  case atStart => exact ⟨0, rfl, by omega, fun i c hi => absurd hi (by omega)⟩
  case round =>
    obtain ⟨k, rfl, hk, hok⟩ := hrel
    by_cases hlt : k < s.size
    · have hx := HQ.out k hlt
      have hI3 : (k : Int) < (s.size : Int) := by omega
      have hI4 : (0 : Int) ≤ k := by omega
      obtain ⟨v, hv⟩ : ∃ v : Int, ((s[k]'hlt).toNat : Int) = v := ⟨_, rfl⟩
      have hvn : 0 ≤ v := by omega
      have hv256 : v < 256 := by have := (s[k]'hlt).toNat_lt; omega
      have hnext : ∀ k' : Nat, k' = k + 1 → (letB (s[k]'hlt) = true ∨ (k ≠ 0 ∧ restB (s[k]'hlt) = true)) → Hid (∀ (i : Nat) (c : UInt8), i < k' → s.data.toList[i]? = some c → letB c = true ∨ (i ≠ 0 ∧ restB c = true)) := by
        rintro _ rfl h i d hi hd
        by_cases hik : i = k
        · subst hik
          rw [hx.out] at hd
          injection hd with hd
          rw [← hd]; exact h
        · exact hok.out i d (by omega) hd
      have HN := Lib.hid hnext
      have hxv : (s[k]'hlt).toNat = v.toNat := by omega
      have HXV := Lib.hid hxv
      clear hnext hok hxv
      have hcls : ((97 : Int) ≤ v ∧ v ≤ (122 : Int)) ∨ (¬ (97 : Int) ≤ v ∧ (65 : Int) ≤ v ∧ v ≤ (90 : Int)) ∨ (¬ (97 : Int) ≤ v ∧ ¬ (65 : Int) ≤ v ∧ (48 : Int) ≤ v ∧ v ≤ (57 : Int)) ∨ (v = 45) ∨ (v = 95) ∨ (v = 46) ∨ (v = 47) ∨ (¬ (97 : Int) ≤ v ∧ ¬ (65 : Int) ≤ v ∧ v < 48 ∧ ¬ v = 45 ∧ ¬ v = 95 ∧ ¬ v = 46 ∧ ¬ v = 47) ∨ (¬ (97 : Int) ≤ v ∧ ¬ (65 : Int) ≤ v ∧ (48 : Int) ≤ v ∧ ¬ v ≤ (57 : Int) ∧ ¬ v = 45 ∧ ¬ v = 95 ∧ ¬ v = 46 ∧ ¬ v = 47) ∨ (¬ (97 : Int) ≤ v ∧ (65 : Int) ≤ v ∧ ¬ v ≤ (90 : Int) ∧ (48 : Int) ≤ v ∧ ¬ v ≤ (57 : Int) ∧ ¬ v = 45 ∧ ¬ v = 95 ∧ ¬ v = 46 ∧ ¬ v = 47) ∨ ((97 : Int) ≤ v ∧ ¬ v ≤ (122 : Int) ∧ (65 : Int) ≤ v ∧ ¬ v ≤ (90 : Int) ∧ (48 : Int) ≤ v ∧ ¬ v ≤ (57 : Int) ∧ ¬ v = 45 ∧ ¬ v = 95 ∧ ¬ v = 46 ∧ ¬ v = 47) := by omega
      have hkc : k = 0 ∨ ¬ (k : Int) = 0 := by omega
      rcases hcls with ⟨q0, q1⟩ | ⟨q0, q1, q2⟩ | ⟨q0, q1, q2, q3⟩ | rfl | rfl | rfl | rfl | ⟨q0, q1, q2, q3, q4, q5, q6⟩ | ⟨q0, q1, q2, q3, q4, q5, q6, q7⟩ | ⟨q0, q1, q2, q3, q4, q5, q6, q7, q8⟩ | ⟨q0, q1, q2, q3, q4, q5, q6, q7, q8, q9⟩
      · have HR := Lib.hid (HN.out _ rfl (Or.inl (letB_yes1 (by have := HXV.out; omega) (by have := HXV.out; omega))))
        clear HN hx
        go_wp2
        exact ⟨⟨k + 1, by go_num, by omega, HR.out⟩, by simp only [intOf]; omega⟩
      · have HR := Lib.hid (HN.out _ rfl (Or.inl (letB_yes2 (by have := HXV.out; omega) (by have := HXV.out; omega))))
        clear HN hx
        go_wp2
        exact ⟨⟨k + 1, by go_num, by omega, HR.out⟩, by simp only [intOf]; omega⟩
      · have hno := letB_no (c := s[k]'hlt) (by have := HXV.out; omega) (by have := HXV.out; omega)
        rcases hkc with rfl | hk0
        · have hn := Lib.hid (name_bad hx.out hno (Or.inl rfl))
          clear HN hx hno
          go_wp2
          go_ret
          exact ⟨by rw [hn.out]; rfl, Below.refl _ _⟩
        · have HR := Lib.hid (HN.out _ rfl (Or.inr ⟨by omega, restB_dig (by have := HXV.out; omega) (by have := HXV.out; omega)⟩))
          clear HN hx hno
          go_wp2
          exact ⟨⟨k + 1, by go_num, by omega, HR.out⟩, by simp only [intOf]; omega⟩
      · have hno := letB_no (c := s[k]'hlt) (by have := HXV.out; omega) (by have := HXV.out; omega)
        rcases hkc with rfl | hk0
        · have hn := Lib.hid (name_bad hx.out hno (Or.inl rfl))
          clear HN hx hno
          go_wp2
          go_ret
          exact ⟨by rw [hn.out]; rfl, Below.refl _ _⟩
        · have HR := Lib.hid (HN.out _ rfl (Or.inr ⟨by omega, by rw [restB_dot (by have := HXV.out; omega), HXV.out]; rfl⟩))
          clear HN hx hno
          go_wp2
          exact ⟨⟨k + 1, by go_num, by omega, HR.out⟩, by simp only [intOf]; omega⟩
      · have hno := letB_no (c := s[k]'hlt) (by have := HXV.out; omega) (by have := HXV.out; omega)
        rcases hkc with rfl | hk0
        · have hn := Lib.hid (name_bad hx.out hno (Or.inl rfl))
          clear HN hx hno
          go_wp2
          go_ret
          exact ⟨by rw [hn.out]; rfl, Below.refl _ _⟩
        · have HR := Lib.hid (HN.out _ rfl (Or.inr ⟨by omega, by rw [restB_dot (by have := HXV.out; omega), HXV.out]; rfl⟩))
          clear HN hx hno
          go_wp2
          exact ⟨⟨k + 1, by go_num, by omega, HR.out⟩, by simp only [intOf]; omega⟩
      · have hno := letB_no (c := s[k]'hlt) (by have := HXV.out; omega) (by have := HXV.out; omega)
        rcases hkc with rfl | hk0
        · have hn := Lib.hid (name_bad hx.out hno (Or.inl rfl))
          clear HN hx hno
          go_wp2
          go_ret
          exact ⟨by rw [hn.out]; rfl, Below.refl _ _⟩
        · have HR := Lib.hid (HN.out _ rfl (Or.inr ⟨by omega, by rw [restB_dot (by have := HXV.out; omega), HXV.out]; rfl⟩))
          clear HN hx hno
          go_wp2
          exact ⟨⟨k + 1, by go_num, by omega, HR.out⟩, by simp only [intOf]; omega⟩
      · have hno := letB_no (c := s[k]'hlt) (by have := HXV.out; omega) (by have := HXV.out; omega)
        rcases hkc with rfl | hk0
        · have hn := Lib.hid (name_bad hx.out hno (Or.inl rfl))
          clear HN hx hno
          go_wp2
          go_ret
          exact ⟨by rw [hn.out]; rfl, Below.refl _ _⟩
        · have HR := Lib.hid (HN.out _ rfl (Or.inr ⟨by omega, by rw [restB_dot (by have := HXV.out; omega), HXV.out]; rfl⟩))
          clear HN hx hno
          go_wp2
          exact ⟨⟨k + 1, by go_num, by omega, HR.out⟩, by simp only [intOf]; omega⟩
      · have hno := letB_no (c := s[k]'hlt) (by have := HXV.out; omega) (by have := HXV.out; omega)
        rcases hkc with rfl | hk0
        · have hn := Lib.hid (name_bad hx.out hno (Or.inl rfl))
          clear HN hx hno
          go_wp2
          go_ret
          exact ⟨by rw [hn.out]; rfl, Below.refl _ _⟩
        · have hn := Lib.hid (name_bad hx.out hno (Or.inr (by rw [restB_dot (by have := HXV.out; omega), HXV.out]; simp; omega)))
          have y45 : (v != 45) = true := by simp; omega
          have y95 : (v != 95) = true := by simp; omega
          have y46 : (v != 46) = true := by simp; omega
          have y47 : (v != 47) = true := by simp; omega
          clear HN hx hno
          go_wp2
          go_ret
          exact ⟨by rw [hn.out]; rfl, Below.refl _ _⟩
      · have hno := letB_no (c := s[k]'hlt) (by have := HXV.out; omega) (by have := HXV.out; omega)
        rcases hkc with rfl | hk0
        · have hn := Lib.hid (name_bad hx.out hno (Or.inl rfl))
          clear HN hx hno
          go_wp2
          go_ret
          exact ⟨by rw [hn.out]; rfl, Below.refl _ _⟩
        · have hn := Lib.hid (name_bad hx.out hno (Or.inr (by rw [restB_dot (by have := HXV.out; omega), HXV.out]; simp; omega)))
          have y45 : (v != 45) = true := by simp; omega
          have y95 : (v != 95) = true := by simp; omega
          have y46 : (v != 46) = true := by simp; omega
          have y47 : (v != 47) = true := by simp; omega
          clear HN hx hno
          go_wp2
          go_ret
          exact ⟨by rw [hn.out]; rfl, Below.refl _ _⟩
      · have hno := letB_no (c := s[k]'hlt) (by have := HXV.out; omega) (by have := HXV.out; omega)
        rcases hkc with rfl | hk0
        · have hn := Lib.hid (name_bad hx.out hno (Or.inl rfl))
          clear HN hx hno
          go_wp2
          go_ret
          exact ⟨by rw [hn.out]; rfl, Below.refl _ _⟩
        · have hn := Lib.hid (name_bad hx.out hno (Or.inr (by rw [restB_dot (by have := HXV.out; omega), HXV.out]; simp; omega)))
          have y45 : (v != 45) = true := by simp; omega
          have y95 : (v != 95) = true := by simp; omega
          have y46 : (v != 46) = true := by simp; omega
          have y47 : (v != 47) = true := by simp; omega
          clear HN hx hno
          go_wp2
          go_ret
          exact ⟨by rw [hn.out]; rfl, Below.refl _ _⟩
      · have hno := letB_no (c := s[k]'hlt) (by have := HXV.out; omega) (by have := HXV.out; omega)
        rcases hkc with rfl | hk0
        · have hn := Lib.hid (name_bad hx.out hno (Or.inl rfl))
          clear HN hx hno
          go_wp2
          go_ret
          exact ⟨by rw [hn.out]; rfl, Below.refl _ _⟩
        · have hn := Lib.hid (name_bad hx.out hno (Or.inr (by rw [restB_dot (by have := HXV.out; omega), HXV.out]; simp; omega)))
          have y45 : (v != 45) = true := by simp; omega
          have y95 : (v != 95) = true := by simp; omega
          have y46 : (v != 46) = true := by simp; omega
          have y47 : (v != 47) = true := by simp; omega
          clear HN hx hno
          go_wp2
          go_ret
          exact ⟨by rw [hn.out]; rfl, Below.refl _ _⟩
    · have hI3 : ¬ (k : Int) < (s.size : Int) := by omega
      have hn := Lib.hid (name_good H0.out (by have := HS.out; omega) (fun i c hi => hok.out i c (by have := (List.getElem?_eq_some_iff.1 hi).1; have := HS.out; omega) hi))
      go_wp2
      go_ret
      exact ⟨by rw [hn.out]; rfl, Below.refl _ _⟩
end Go.Proofs.YtpmoepipoafegaaGreatDoor

/-
  Walks over the document's addresses: digits, Number, Read.
-/
namespace Go.Proofs.YtpmoepipoafegaaGreatDoor
open Go Go.RowKit Go.Sort

theorem conv_one (w : World) (x : Int) (h0 : 0 ≤ x) (h1 : x < 256) : (convert 75 9 (.slice (some ⟨w.heap.size, 0, none⟩) 1 1)).run Tryz.prog (w.alloc (.cells #[.int .u8 x] 5)) = .ok (.string ⟨#[UInt8.ofNat x.toNat]⟩) (w.alloc (.cells #[.int .u8 x] 5)) := by
  have h := run_convert_bytes_back (P := Tryz.prog) (w.alloc (.cells #[.int .u8 x] 5)) 75 9 5 ⟨w.heap.size, 0, none⟩ 1 [UInt8.ofNat x.toNat] Tryz.underlying75 Tryz.underlying5 Tryz.underlying9 (fun j hj => by
    simp at hj
    subst hj
    have e : ((UInt8.ofNat x.toNat).toNat : Int) = x := by simp; omega
    have e2 : (⟨w.heap.size, 0, none⟩ : Addr).add 0 = ⟨w.heap.size, 0, none⟩ := rfl
    rw [e2, cell_of_row _ _ _ _ _ _ (heap_alloc_new w _)]
    simp only [List.getElem_cons_zero, e]
    rfl)
  exact h
theorem dec_len : ∀ (k n : Nat), n < 10 ^ (k + 1) → (Lib.decDigits n).length ≤ k + 1
  | 0, n, h => by rw [decDigits_small (by simpa using h)]; simp
  | k + 1, n, h => by
    by_cases h9 : n < 10
    · rw [decDigits_small h9]; simp
    · rw [decDigits_big h9, List.length_append]
      have := dec_len k (n / 10) (by rw [Nat.pow_succ] at h; omega)
      simp; omega
theorem dec_push {k n : Nat} {t : ByteArray} (h9 : 9 < k) (h : Lib.decDigits k ++ t.data.toList = Lib.decDigits n) : Lib.decDigits (k / 10) ++ ((⟨#[UInt8.ofNat (48 + k % 10)]⟩ : ByteArray) ++ t).data.toList = Lib.decDigits n := by
  rw [← h, decDigits_big (n := k) (by omega)]
  simp [ByteArray.data_append]
theorem dec_last {k n : Nat} {t : ByteArray} (h9 : ¬ 9 < k) (h : Lib.decDigits k ++ t.data.toList = Lib.decDigits n) : (⟨#[UInt8.ofNat (48 + k)]⟩ : ByteArray) ++ t = ⟨(Lib.decDigits n).toArray⟩ := by
  apply byte_ext
  show _ = Lib.decDigits n
  rw [← h, decDigits_small (by omega)]
  simp [ByteArray.data_append]
theorem size_le_of {k n : Nat} {t : ByteArray} (hn : n < 18446744073709551616) (h : Lib.decDigits k ++ t.data.toList = Lib.decDigits n) : t.size ≤ 20 := by
  have h1 := dec_len 19 n (Nat.lt_of_lt_of_le hn (by decide))
  rw [← h, List.length_append] at h1
  have e : t.size = t.data.toList.length := (Array.length_toList).symm
  rw [e]; omega
theorem dig_wrap (d : Int) (h0 : 0 ≤ d) (h1 : d < 10) : IntKind.u64.wrap (48 + d) = 48 + d ∧ (48 + d) % 256 = 48 + d := by
  refine ⟨?_, by omega⟩
  simp [IntKind.wrap, IntKind.bits, IntKind.signed]
  omega
set_option maxRecDepth 100000 in
set_option maxHeartbeats 1000000 in
theorem digits_any (n : Int) (w : World) (h0 : 0 ≤ n) (hn : Hid (n < 18446744073709551616)) :
    Calls Tryz.prog 54 #[.int .u64 n] w fun e w' => e = .returned (.string ⟨(Lib.decDigits n.toNat).toArray⟩) ∧ Below w.heap.size w w' := by
  go_enter Tryz.func54, Tryz.ntmps54
  go_wp2
  go_loopw [0, 3] (fun m s wr => ∃ (k : Int) (t : ByteArray), m = .int .u64 k ∧ s = .string t ∧ 0 ≤ k ∧ Hid (k < 18446744073709551616) ∧ Hid (Lib.decDigits k.toNat ++ t.data.toList = Lib.decDigits n.toNat) ∧ Below w.heap.size w wr) (fun m _ _ => (intOf m).toNat)
  case atStart => exact ⟨n, ⟨#[]⟩, rfl, rfl, h0, hn, Lib.hid (by simp), Below.refl _ _⟩
  case round =>
    obtain ⟨k, t, rfl, rfl, hk, hk2, hd, hb⟩ := hrel
    have hts := size_le_of (by have := hn.out; omega) hd.out
    by_cases h9 : 9 < k
    · have hI : k > 9 := h9
      go_upto_region 3 with fail
      have d0 : 0 ≤ k % 10 := by omega
      have d1 : k % 10 < 10 := by omega
      have e1 : k.tmod 10 = k % 10 := by rw [Int.tmod_eq_emod_of_nonneg hk]
      obtain ⟨e2, e3⟩ := dig_wrap (k % 10) d0 d1
      have e4 : k.tdiv 10 = k / 10 := Int.tdiv_eq_ediv_of_nonneg hk
      have hc := conv_one wr (48 + k % 10) (by omega) (by omega)
      rw [show (48 + k % 10).toNat = 48 + k.toNat % 10 by omega] at hc
      have hd2 := Lib.hid (dec_push (k := k.toNat) (by omega) hd.out)
      have hk3 := Lib.hid (show k / 10 < 18446744073709551616 by have := hk2.out; omega)
      have hw1 : IntKind.u64.wrap (k / 10) = k / 10 := by
        have := hk2.out
        simp [IntKind.wrap, IntKind.bits, IntKind.signed]; omega
      have hb2 := hb.alloc hb.size (.cells #[.int .u8 (48 + k % 10)] 5)
      generalize hx : UInt8.ofNat (48 + k.toNat % 10) = x at *
      clear hI hd hk2 hx
      go_wp2
      refine ⟨⟨k / 10, _, rfl, rfl, by omega, hk3, ?_, hb2⟩, by simp only [intOf]; omega⟩
      rw [show (k / 10).toNat = k.toNat / 10 by omega]
      exact hd2
    · have hI : ¬ k > 9 := h9
      go_upto_region 5 with fail
      obtain ⟨e2, e3⟩ := dig_wrap k hk (by omega)
      have hc := conv_one wr (48 + k) (by omega) (by omega)
      rw [show (48 + k).toNat = 48 + k.toNat by omega] at hc
      have hd2 := Lib.hid (dec_last (k := k.toNat) (by omega) hd.out)
      have hb2 := hb.alloc hb.size (.cells #[.int .u8 (48 + k)] 5)
      generalize hx : UInt8.ofNat (48 + k.toNat) = x at *
      clear hI hd hk2 hx
      go_wp2
      go_ret
      exact ⟨by rw [← hd2.out]; rfl, hb2⟩
end Go.Proofs.YtpmoepipoafegaaGreatDoor

/-
  Walks over the document's addresses: Number, Text, PrefixText.
-/
namespace Go.Proofs.YtpmoepipoafegaaGreatDoor
open Go Go.RowKit Go.Sort

set_option maxRecDepth 100000 in
set_option maxHeartbeats 1000000 in
theorem refNumber_any (n : Int) (w : World) (h0 : -9223372036854775808 ≤ n) (h1 : n ≤ 9223372036854775807) :
    Calls Tryz.prog 28 #[.int .i64 n] w fun e w' => e = .returned (.string ⟨(Lib.itoa n).toArray⟩) ∧ Below w.heap.size w w' := by
  have hl := Lib.itoa_length_le n h0 h1
  by_cases hn : n < 0
  · have e1 : wrap64 (n + 1) = n + 1 := by unfold wrap64; omega
    have e2 : wrap64 (-(n + 1)) = -(n + 1) := by unfold wrap64; omega
    have e3 : IntKind.u64.wrap (-(n + 1)) = -(n + 1) := by simp [IntKind.wrap, IntKind.bits, IntKind.signed]; omega
    have e4 : IntKind.u64.wrap (-(n + 1) + 1) = -n := by simp [IntKind.wrap, IntKind.bits, IntKind.signed]; omega
    have HD := Lib.hid (fun v => digits_any (-n) v (by omega) (Lib.hid (by omega)))
    have hi : Lib.itoa n = 45 :: Lib.decDigits (-n).toNat := by
      unfold Lib.itoa
      rw [if_pos hn, show n.natAbs = (-n).toNat by omega]
    have hz : (Lib.decDigits (-n).toNat).length ≤ 21 := by rw [hi] at hl; simp at hl; omega
    have HI := Lib.hid hi
    have hneg : n < 0 := hn
    clear h0 h1 hl hi hn
    go_enter Tryz.func28, Tryz.ntmps28
    go_wp2_with fail
    refine (HD.out _).mono ?_
    rintro e w1 ⟨rfl, hb⟩
    go_wp2
    go_ret
    exact ⟨by rw [HI.out]; exact congrArg (fun x => Ending.returned (.string x)) (byte_ext (by simp [ByteArray.data_append])), hb⟩
  · have HD := Lib.hid (fun v => digits_any n v (by omega) (Lib.hid (by omega)))
    have hi := Lib.hid (show Lib.itoa n = Lib.decDigits n.toNat by unfold Lib.itoa; rw [if_neg hn])
    have e1 : IntKind.u64.wrap n = n := by simp [IntKind.wrap, IntKind.bits, IntKind.signed]; omega
    clear h0 h1
    go_enter Tryz.func28, Tryz.ntmps28
    go_wp2_with fail
    refine (HD.out _).mono ?_
    rintro e w1 ⟨rfl, hb⟩
    go_wp2
    go_ret
    exact ⟨by rw [hi.out]; rfl, hb⟩

theorem refNum_oct (a k : Nat) (v : World) : Calls Tryz.prog 28 #[.int .i64 (octet a k)] v fun e w' => e = .returned (.string ⟨(dec3 (octet a k)).toArray⟩) ∧ Below v.heap.size v w' := by
  have h0 := octet_lt a k
  have h := refNumber_any (octet a k) v (by omega) (by omega)
  rw [show Lib.itoa (octet a k : Int) = Lib.decDigits (octet a k) by unfold Lib.itoa; rw [if_neg (by omega), Int.toNat_natCast], dec3_eq (by omega)] at h
  exact h
set_option maxRecDepth 100000 in
set_option maxHeartbeats 2000000 in
theorem refText_any (a : Nat) (ha : a < 4294967296) (w : World) :
    Calls Tryz.prog 29 #[.int .u32 a] w fun e w' => e = .returned (.string (textA a)) ∧ Below w.heap.size w w' := by
  have i0 : (a : Int) / 16777216 = (octet a 0 : Int) := by unfold octet; simp only [Nat.reduceSub, Nat.reducePow]; omega
  have i1 : (a : Int) / 65536 % 256 = (octet a 1 : Int) := by unfold octet; simp only [Nat.reduceSub, Nat.reducePow]; omega
  have i2 : (a : Int) / 256 % 256 = (octet a 2 : Int) := by unfold octet; simp only [Nat.reduceSub, Nat.reducePow]; omega
  have i3 : (a : Int) % 256 = (octet a 3 : Int) := by unfold octet; simp only [Nat.reduceSub, Nat.pow_zero, Nat.div_one]; omega
  have n0 := Lib.hid (refNum_oct a 0)
  have n1 := Lib.hid (refNum_oct a 1)
  have n2 := Lib.hid (refNum_oct a 2)
  have n3 := Lib.hid (refNum_oct a 3)
  have z0 := dec3_len (octet a 0)
  have z1 := dec3_len (octet a 1)
  have z2 := dec3_len (octet a 2)
  have z3 := dec3_len (octet a 3)
  have hT := Lib.hid (textA_eq a)
  generalize dec3 (octet a 0) = x0 at *
  generalize dec3 (octet a 1) = x1 at *
  generalize dec3 (octet a 2) = x2 at *
  generalize dec3 (octet a 3) = x3 at *
  go_enter Tryz.func29, Tryz.ntmps29
  go_wp2_with fail
  refine (n0.out _).mono ?_
  rintro e w1 ⟨rfl, hb1⟩
  go_wp2_with fail
  refine (n1.out _).mono ?_
  rintro e w2 ⟨rfl, hb2⟩
  go_wp2_with fail
  refine (n2.out _).mono ?_
  rintro e w3 ⟨rfl, hb3⟩
  go_wp2_with fail
  refine (n3.out _).mono ?_
  rintro e w4 ⟨rfl, hb4⟩
  have hb := ((hb1.trans (hb2.mono hb1.size)).trans (hb3.mono (Nat.le_trans hb1.size hb2.size))).trans (hb4.mono (Nat.le_trans (Nat.le_trans hb1.size hb2.size) hb3.size))
  clear hb1 hb2 hb3 hb4
  go_wp2
  go_ret
  exact ⟨by rw [hT.out]; exact congrArg (fun x => Ending.returned (.string x)) (byte_ext (by simp [ByteArray.data_append])), hb⟩

set_option maxHeartbeats 1000000 in
theorem refPrefixText_any (a : Nat) (n : Int) (ha : a < 4294967296) (h0 : -9223372036854775808 ≤ n) (h1 : n ≤ 9223372036854775807) (w : World) :
    Calls Tryz.prog 27 #[.agg #[.int .u32 a, .int .i64 n]] w fun e w' => e = .returned (.string (textP a n)) ∧ Below w.heap.size w w' := by
  have hZ := textA_size a
  have hI := Lib.itoa_length_le n h0 h1
  go_enter Tryz.func27, Tryz.ntmps27
  go_wp2
  have c0 : (w.alloc (.cells #[.int .u32 a, .int .i64 n] 25)).cell? ⟨w.heap.size, 0, none⟩ = some (.int .u32 a) := by simp
  have c1 : (w.alloc (.cells #[.int .u32 a, .int .i64 n] 25)).cell? ⟨w.heap.size, 1, none⟩ = some (.int .i64 n) := by simp
  have hbW : Below w.heap.size w (w.alloc (.cells #[.int .u32 a, .int .i64 n] 25)) := (Below.refl _ _).alloc (Nat.le_refl _) _
  generalize w.alloc (.cells #[.int .u32 a, .int .i64 n] 25) = W at *
  have F0 := cell_regrown c0
  have F1 := cell_regrown c1
  refine wp_region_quiet_below (by kernel_rfl) (by kernel_rfl) ?_
  repeat (first | go_big_quiet_step ((first | (go_at_call 29; exact Calls.regrown_of (refText_any _ (by omega) _)) | (go_at_call 28; exact Calls.regrown_of (refNumber_any _ _ (by omega) (by omega))))) | quiet_step ((first | (go_at_call 29; exact Calls.regrown_of (refText_any _ (by omega) _)) | (go_at_call 28; exact Calls.regrown_of (refNumber_any _ _ (by omega) (by omega))))))
  refine wpQuiet_nil ?_
  intro _ hw'
  obtain ⟨⟨nq, osq⟩, hw''⟩ := hw'
  subst hw''
  go_wp2
  go_ret
  exact ⟨rfl, (hbW.trans ((below_regrown W nq osq).mono hbW.size))⟩
end Go.Proofs.YtpmoepipoafegaaGreatDoor

/-
  The document's text of a rule.
-/
namespace Go.Proofs.YtpmoepipoafegaaGreatDoor
open Go Go.RowKit Go.Sort

theorem refNumI_any (n : Int) (h0 : 0 ≤ n) (h1 : n ≤ 9223372036854775807) (w : World) :
    Calls Tryz.prog 28 #[.int .i64 n] w fun e w' => e = .returned (.string ⟨(Lib.decDigits n.toNat).toArray⟩) ∧ Below w.heap.size w w' := by
  obtain ⟨k, rfl⟩ := Int.eq_ofNat_of_zero_le h0
  have h := refNumber_any k w (by omega) h1
  rw [Lib.itoa_nonneg] at h
  rw [Int.toNat_natCast]
  exact h
theorem refPrefI_any (a n : Int) (ha : 0 ≤ a ∧ a < 4294967296) (h0 : -9223372036854775808 ≤ n) (h1 : n ≤ 9223372036854775807) (w : World) :
    Calls Tryz.prog 27 #[.agg #[.int .u32 a, .int .i64 n]] w fun e w' => e = .returned (.string ⟨(prefT a n).toArray⟩) ∧ Below w.heap.size w w' := by
  obtain ⟨a, rfl⟩ := Int.eq_ofNat_of_zero_le ha.1
  have h := refPrefixText_any a n (by omega) h0 h1 w
  have e : (⟨(prefT (a : Int) n).toArray⟩ : ByteArray) = textP a n := byte_ext (by simp [prefT])
  rw [e]
  exact h
end Go.Proofs.YtpmoepipoafegaaGreatDoor

/-
  The document's Text of a route (written by wip/gen/genrd2.py).
-/
namespace Go.Proofs.YtpmoepipoafegaaGreatDoor
open Go Go.RowKit Go.Sort

theorem fromW_ne {f : Int} (h1 : 1 ≤ f) (h2 : f ≤ 8) : fromW f ≠ [] := by
  rcases from_cases h1 h2 with rfl | rfl | rfl | rfl | rfl | rfl | rfl | rfl <;> decide
theorem ne_facts {fs : List UInt8} (h : fs ≠ []) : fs.isEmpty = false ∧ (fs == []) = false := by cases fs <;> simp_all
theorem bl_sizeR {l : List UInt8} {k : Nat} (h : l.length ≤ k) : (⟨l.toArray⟩ : ByteArray).size ≤ k := by
  show l.toArray.size ≤ k
  simpa using h
theorem str_none {l : List UInt8} (h : l = []) : (⟨l.toArray⟩ : ByteArray) = ⟨#[]⟩ := by rw [h]
theorem joinB32_snoc : ∀ (L : List (List UInt8)) (x : List UInt8), L ≠ [] → joinB32 (L ++ [x]) = joinB32 L ++ 32 :: x
  | [], _, h => absurd rfl h
  | [_], _, _ => rfl
  | a :: b :: r, x, _ => by
    have ih := joinB32_snoc (b :: r) x (by simp)
    show a ++ 32 :: joinB32 ((b :: r) ++ [x]) = (a ++ 32 :: joinB32 (b :: r)) ++ 32 :: x
    rw [ih]; simp
theorem join32_snoc (L : List (List UInt8)) (x : List UInt8) (h : L ≠ []) : Lib.join (L ++ [x]) [32] = Lib.join L [32] ++ 32 :: x := by
  rw [← joinC_join32, ← joinC_join32]; exact joinB32_snoc L x h
theorem cat_via (L : List (List UInt8)) (h : L ≠ []) (q : ByteArray) : ((⟨(Lib.join L [32]).toArray⟩ : ByteArray) ++ ⟨#[32, 118, 105, 97, 32]⟩) ++ q = ⟨(Lib.join (L ++ [viaW, q.data.toList]) [32]).toArray⟩ := by
  rw [show L ++ [viaW, q.data.toList] = (L ++ [viaW]) ++ [q.data.toList] by simp, join32_snoc _ _ (by simp), join32_snoc _ _ h]
  exact byte_ext (by simp [ByteArray.data_append, viaW])
theorem cat_on (L : List (List UInt8)) (h : L ≠ []) (q : List UInt8) : ((⟨(Lib.join L [32]).toArray⟩ : ByteArray) ++ ⟨#[32, 111, 110, 32]⟩) ++ ⟨q.toArray⟩ = ⟨(Lib.join (L ++ [onW, q]) [32]).toArray⟩ := by
  rw [show L ++ [onW, q] = (L ++ [onW]) ++ [q] by simp, join32_snoc _ _ (by simp), join32_snoc _ _ h]
  exact byte_ext (by simp [ByteArray.data_append, onW])
theorem cat_disc (L : List (List UInt8)) (h : L ≠ []) : (⟨(Lib.join L [32]).toArray⟩ : ByteArray) ++ ⟨#[32, 100, 105, 115, 99, 97, 114, 100]⟩ = ⟨(Lib.join (L ++ [discW]) [32]).toArray⟩ := by
  rw [join32_snoc _ _ h]
  exact byte_ext (by simp [ByteArray.data_append, discW])
theorem cat_five (x p q1 q2 q3 : List UInt8) : (⟨(Lib.join [x, p, q1, q2, q3] [32]).toArray⟩ : ByteArray) = (((((((⟨x.toArray⟩ ++ ⟨#[32]⟩) ++ ⟨p.toArray⟩) ++ ⟨#[32]⟩) ++ ⟨q1.toArray⟩) ++ ⟨#[32]⟩) ++ ⟨q2.toArray⟩) ++ ⟨#[32]⟩) ++ ⟨q3.toArray⟩ := by
  rw [← joinC_join32]
  exact byte_ext (by simp [joinB32, ByteArray.data_append])
set_option maxRecDepth 100000 in
set_option maxHeartbeats 8000000 in
theorem refRtText_any (r : RtV) (w : World) : Calls Tryz.prog 7 #[.agg #[.int .u32 r.a, .int .i64 r.m, .int .u8 r.fr, .int .i64 r.di, .int .i64 r.me, .int .i64 r.ta, .string ⟨r.nm.toArray⟩, .int .u32 r.ho, .bool r.dc]] w fun e w' => e = .returned (.tuple #[.string ⟨r.told.toArray⟩, .int .i64 r.toldE]) ∧ Below w.heap.size w w' := by
  have hk0 := heap_alloc_new w (rtObj r)
  have hb0 := below1 w (rtObj r)
  have hW : w.alloc (.cells #[.int .u32 r.a, .int .i64 r.m, .int .u8 r.fr, .int .i64 r.di, .int .i64 r.me, .int .i64 r.ta, .string ⟨r.nm.toArray⟩, .int .u32 r.ho, .bool r.dc] 27) = w.alloc (rtObj r) := rfl
  obtain ⟨c0, c1, c2, c3, c4, c5, c6, c7, c8⟩ := blk9 (t := 27) (show (w.alloc (rtObj r)).heap[w.heap.size]? = some (.cells #[.int .u32 r.a, .int .i64 r.m, .int .u8 r.fr, .int .i64 r.di, .int .i64 r.me, .int .i64 r.ta, .string ⟨r.nm.toArray⟩, .int .u32 r.ho, .bool r.dc] 27 (0, 0)) from hk0)
  have HCk := Lib.hid (fun W => refCheck_any r.a r.m W r.ha.1 r.ha.2)
  have HFr := Lib.hid (fun W => refFrom_any r.fr r.hfr.1 W)
  have HFi := Lib.hid (fun n W => refFine_any n W)
  have HNa := Lib.hid (show ∀ W, Calls Tryz.prog 26 #[.string ⟨r.nm.toArray⟩] W _ from fun W => refName_any ⟨r.nm.toArray⟩ W)
  go_enter Tryz.func7, Tryz.ntmps7
  go_upto_region 1 with fail
  try rw [hW]
  generalize (Value.agg #[.int .u32 r.a, .int .i64 r.m, .int .u8 r.fr, .int .i64 r.di, .int .i64 r.me, .int .i64 r.ta, .string ⟨r.nm.toArray⟩, .int .u32 r.ho, .bool r.dc] : Value) = vr at *
  go_cut [57] (fun s57 wx => s57 = .bool (!r.ok) ∧ Hid (wx.heap[w.heap.size]? = some (rtObj r) ∧ Below w.heap.size w wx))
  case first =>
    generalize w.alloc (rtObj r) = W0 at *
    clear hW
    go_wp2_with fail
    refine (HCk.out _).mono ?_
    rintro e w1 ⟨rfl, hb⟩
    have hk1 := blk_below hb hk0
    have hb1 := below_call hb0 hb
    clear hb hb0 hk0 c0 c1 c2 c3 c4 c5 c6 c7 c8
    obtain ⟨c0, c1, c2, c3, c4, c5, c6, c7, c8⟩ := blk9 (t := 27) (show w1.heap[w.heap.size]? = some (.cells #[.int .u32 r.a, .int .i64 r.m, .int .u8 r.fr, .int .i64 r.di, .int .i64 r.me, .int .i64 r.ta, .string ⟨r.nm.toArray⟩, .int .u32 r.ho, .bool r.dc] 27 (0, 0)) from hk1)
    by_cases q0 : chk r.a r.m = 0
    · have d0 : (chk r.a r.m != 0) = false := by simpa using q0
      go_wp2_with fail
      refine (HFr.out _).mono ?_
      rintro e w2 ⟨rfl, hb⟩
      have hk2 := blk_below hb hk1
      have hb2 := below_call hb1 hb
      clear hb hb1 hk1 c0 c1 c2 c3 c4 c5 c6 c7 c8
      obtain ⟨c0, c1, c2, c3, c4, c5, c6, c7, c8⟩ := blk9 (t := 27) (show w2.heap[w.heap.size]? = some (.cells #[.int .u32 r.a, .int .i64 r.m, .int .u8 r.fr, .int .i64 r.di, .int .i64 r.me, .int .i64 r.ta, .string ⟨r.nm.toArray⟩, .int .u32 r.ho, .bool r.dc] 27 (0, 0)) from hk2)
      obtain ⟨fs, hfs⟩ : ∃ fs : List UInt8, fs = fromW r.fr := ⟨_, rfl⟩
      rw [← hfs]
      have Hfs := Lib.hid hfs
      clear hfs
      by_cases q1 : 1 ≤ r.fr ∧ r.fr ≤ 8
      · have hne : fs ≠ [] := by rw [Hfs.out]; exact fromW_ne q1.1 q1.2
        obtain ⟨d1, d2⟩ := ne_facts hne
        clear hne
        go_wp2_with fail
        refine (HFi.out r.di _).mono ?_
        rintro e w3 ⟨rfl, hb⟩
        have hk3 := blk_below hb hk2
        have hb3 := below_call hb2 hb
        clear hb hb2 hk2 c0 c1 c2 c3 c4 c5 c6 c7 c8
        obtain ⟨c0, c1, c2, c3, c4, c5, c6, c7, c8⟩ := blk9 (t := 27) (show w3.heap[w.heap.size]? = some (.cells #[.int .u32 r.a, .int .i64 r.m, .int .u8 r.fr, .int .i64 r.di, .int .i64 r.me, .int .i64 r.ta, .string ⟨r.nm.toArray⟩, .int .u32 r.ho, .bool r.dc] 27 (0, 0)) from hk3)
        by_cases p0 : fineB r.di = true
        · skip
          go_wp2_with fail
          refine (HFi.out r.me _).mono ?_
          rintro e w4 ⟨rfl, hb⟩
          have hk4 := blk_below hb hk3
          have hb4 := below_call hb3 hb
          clear hb hb3 hk3 c0 c1 c2 c3 c4 c5 c6 c7 c8
          obtain ⟨c0, c1, c2, c3, c4, c5, c6, c7, c8⟩ := blk9 (t := 27) (show w4.heap[w.heap.size]? = some (.cells #[.int .u32 r.a, .int .i64 r.m, .int .u8 r.fr, .int .i64 r.di, .int .i64 r.me, .int .i64 r.ta, .string ⟨r.nm.toArray⟩, .int .u32 r.ho, .bool r.dc] 27 (0, 0)) from hk4)
          by_cases p1 : fineB r.me = true
          · skip
            go_wp2_with fail
            refine (HFi.out r.ta _).mono ?_
            rintro e w5 ⟨rfl, hb⟩
            have hk5 := blk_below hb hk4
            have hb5 := below_call hb4 hb
            clear hb hb4 hk4 c0 c1 c2 c3 c4 c5 c6 c7 c8
            obtain ⟨c0, c1, c2, c3, c4, c5, c6, c7, c8⟩ := blk9 (t := 27) (show w5.heap[w.heap.size]? = some (.cells #[.int .u32 r.a, .int .i64 r.m, .int .u8 r.fr, .int .i64 r.di, .int .i64 r.me, .int .i64 r.ta, .string ⟨r.nm.toArray⟩, .int .u32 r.ho, .bool r.dc] 27 (0, 0)) from hk5)
            by_cases p2 : fineB r.ta = true
            · skip
              by_cases q2 : r.nm = []
              · have d5 : r.nm.isEmpty = true := by simpa using q2
                have d4 : (r.nm == []) = true := by simpa using q2
                have d9 : (!r.nm.isEmpty) = false := by rw [d5]; rfl
                cases hd : r.dc with
                | false =>
                  rw [hd] at c8
                  go_wp2_with fail
                  go_meet
                  exact ⟨by rw [rt_ok_yes ⟨q0, q1.1, q1.2, ⟨p0, p1, p2⟩, Or.inl q2, fun h => by rw [hd] at h; cases h⟩]; rfl, Lib.hid ⟨hk5, hb5⟩⟩
                | true =>
                  rw [hd] at c8
                  by_cases q3 : r.ho = 0
                  · have d6 : (r.ho != 0) = false := by simpa using q3
                    go_wp2_with fail
                    go_meet
                    exact ⟨by rw [rt_ok_yes ⟨q0, q1.1, q1.2, ⟨p0, p1, p2⟩, Or.inl q2, fun _ => ⟨q3, q2⟩⟩]; rfl, Lib.hid ⟨hk5, hb5⟩⟩
                  · have d6 : (r.ho != 0) = true := by simpa using q3
                    go_wp2_with fail
                    go_meet
                    exact ⟨by rw [rt_ok_no (fun h => q3 (h.2.2.2.2.2 hd).1)]; rfl, Lib.hid ⟨hk5, hb5⟩⟩
              · have d5 : r.nm.isEmpty = false := by simpa using q2
                have d4 : (r.nm == []) = false := by simpa using q2
                have d9 : (!r.nm.isEmpty) = true := by rw [d5]; rfl
                go_wp2_with fail
                refine (HNa.out _).mono ?_
                rintro e w6 ⟨rfl, hb⟩
                have hk6 := blk_below hb hk5
                have hb6 := below_call hb5 hb
                clear hb hb5 hk5 c0 c1 c2 c3 c4 c5 c6 c7 c8
                obtain ⟨c0, c1, c2, c3, c4, c5, c6, c7, c8⟩ := blk9 (t := 27) (show w6.heap[w.heap.size]? = some (.cells #[.int .u32 r.a, .int .i64 r.m, .int .u8 r.fr, .int .i64 r.di, .int .i64 r.me, .int .i64 r.ta, .string ⟨r.nm.toArray⟩, .int .u32 r.ho, .bool r.dc] 27 (0, 0)) from hk6)
                by_cases q4 : nameB r.nm = true
                · cases hd : r.dc with
                  | false =>
                    rw [hd] at c8
                    go_wp2_with fail
                    go_meet
                    exact ⟨by rw [rt_ok_yes ⟨q0, q1.1, q1.2, ⟨p0, p1, p2⟩, Or.inr q4, fun h => by rw [hd] at h; cases h⟩]; rfl, Lib.hid ⟨hk6, hb6⟩⟩
                  | true =>
                    rw [hd] at c8
                    by_cases q3 : r.ho = 0
                    · have d6 : (r.ho != 0) = false := by simpa using q3
                      go_wp2_with fail
                      go_meet
                      exact ⟨by rw [rt_ok_no (fun h => q2 (h.2.2.2.2.2 hd).2)]; rfl, Lib.hid ⟨hk6, hb6⟩⟩
                    · have d6 : (r.ho != 0) = true := by simpa using q3
                      go_wp2_with fail
                      go_meet
                      exact ⟨by rw [rt_ok_no (fun h => q3 (h.2.2.2.2.2 hd).1)]; rfl, Lib.hid ⟨hk6, hb6⟩⟩
                · replace q4 := Bool.eq_false_iff.2 q4
                  go_wp2_with fail
                  go_meet
                  exact ⟨by rw [rt_ok_no (fun h => h.2.2.2.2.1.elim q2 (fun h' => by rw [q4] at h'; cases h'))]; rfl, Lib.hid ⟨hk6, hb6⟩⟩
            · replace p2 := Bool.eq_false_iff.2 p2
              go_wp2_with fail
              go_meet
              exact ⟨by rw [rt_ok_no (fun h => by have h' := h.2.2.2.1.2.2; rw [p2] at h'; cases h')]; rfl, Lib.hid ⟨hk5, hb5⟩⟩
          · replace p1 := Bool.eq_false_iff.2 p1
            go_wp2_with fail
            go_meet
            exact ⟨by rw [rt_ok_no (fun h => by have h' := h.2.2.2.1.2.1; rw [p1] at h'; cases h')]; rfl, Lib.hid ⟨hk4, hb4⟩⟩
        · replace p0 := Bool.eq_false_iff.2 p0
          go_wp2_with fail
          go_meet
          exact ⟨by rw [rt_ok_no (fun h => by have h' := h.2.2.2.1.1; rw [p0] at h'; cases h')]; rfl, Lib.hid ⟨hk3, hb3⟩⟩
      · have he : fs = [] := by rw [Hfs.out]; exact fromW_none r.hfr.1 (by have := r.hfr; omega)
        have d1 : fs.isEmpty = true := by rw [he]; rfl
        have d2 : (fs == []) = true := by rw [he]; rfl
        clear he
        go_wp2_with fail
        go_meet
        exact ⟨by rw [rt_ok_no (fun h => q1 ⟨h.2.1, h.2.2.1⟩)]; rfl, Lib.hid ⟨hk2, hb2⟩⟩
    · have d0 : (chk r.a r.m != 0) = true := by simpa using q0
      go_wp2_with fail
      go_meet
      exact ⟨by rw [rt_ok_no (fun h => q0 h.1)]; rfl, Lib.hid ⟨hk1, hb1⟩⟩
  case rest =>
    obtain ⟨rfl, hcut⟩ := hcut
    obtain ⟨hk, hbw⟩ := hcut.out
    rename World => wa
    clear hcut hk0 hb0 HCk HFr HFi HNa c0 c1 c2 c3 c4 c5 c6 c7 c8
    cases hok : r.ok with
    | false =>
      have ht := Lib.hid (rt_told_no hok)
      clear hok
      go_wp2
      go_ret2
      exact ⟨by rw [ht.out.1, ht.out.2]; rfl, hbw⟩
    | true =>
      have ht := Lib.hid (rt_told_yes hok)
      obtain ⟨k0, k1, k2, ⟨k3, k4, k5⟩, k6, k7⟩ := rt_ok_iff.1 hok
      have kc := chk_ok k0
      have l3 := fine_iff.1 k3
      have l4 := fine_iff.1 k4
      have l5 := fine_iff.1 k5
      have KP := Lib.hid (show ∀ W, Calls Tryz.prog 27 #[.agg #[.int .u32 r.a, .int .i64 r.m]] W _ from fun W => refPrefI_any r.a r.m r.ha r.hm.1 r.hm.2 W)
      have KF := Lib.hid (show ∀ W, Calls Tryz.prog 24 #[.int .u8 r.fr] W _ from fun W => refFrom_any r.fr r.hfr.1 W)
      have KD := Lib.hid (show ∀ W, Calls Tryz.prog 28 #[.int .i64 r.di] W _ from fun W => refNumI_any r.di l3.1 (by omega) W)
      have KM := Lib.hid (show ∀ W, Calls Tryz.prog 28 #[.int .i64 r.me] W _ from fun W => refNumI_any r.me l4.1 (by omega) W)
      have KT := Lib.hid (show ∀ W, Calls Tryz.prog 28 #[.int .i64 r.ta] W _ from fun W => refNumI_any r.ta l5.1 (by omega) W)
      have z0 := bl_sizeR (prefT_len (a := r.a) kc.1 kc.2.1)
      have z1 := bl_sizeR (fromW_len k1 k2)
      have z2 := bl_sizeR (dec32 (n := r.di.toNat) (by omega))
      have z3 := bl_sizeR (dec32 (n := r.me.toNat) (by omega))
      have z4 := bl_sizeR (dec32 (n := r.ta.toNat) (by omega))
      obtain ⟨W5, hW5⟩ : ∃ W5 : List (List UInt8), W5 = [prefT r.a r.m, fromW r.fr, Lib.decDigits r.di.toNat, Lib.decDigits r.me.toNat, Lib.decDigits r.ta.toNat] := ⟨_, rfl⟩
      have hne : W5 ≠ [] := by rw [hW5]; simp
      have hT5 := cat_five (prefT r.a r.m) (fromW r.fr) (Lib.decDigits r.di.toNat) (Lib.decDigits r.me.toNat) (Lib.decDigits r.ta.toNat)
      have hwd : r.text = Lib.join (W5 ++ (r.hopW ++ (r.nmW ++ r.dcW))) [32] := by rw [hW5]; rfl
      rw [← hW5] at hT5
      have HWD := Lib.hid hwd
      have K6 := Lib.hid k6
      have K7 := Lib.hid k7
      have z5 : (⟨(Lib.join W5 [32]).toArray⟩ : ByteArray).size ≤ 100 := by
        rw [hT5]
        simp only [ByteArray.size_append]
        have e : (⟨#[32]⟩ : ByteArray).size = 1 := rfl
        omega
      obtain ⟨T5, hT⟩ : ∃ T5 : ByteArray, T5 = ⟨(Lib.join W5 [32]).toArray⟩ := ⟨_, rfl⟩
      rw [← hT] at z5 hT5
      have HTT := Lib.hid hT
      have HT5 := Lib.hid hT5
      have HNE := Lib.hid hne
      clear hT hne hW5 hT5 hwd hok k0 k1 k2 k3 k4 k5 k6 k7 kc l3 l4 l5
      obtain ⟨c0, c1, c2, c3, c4, c5, c6, c7, c8⟩ := blk9 (t := 27) (show wa.heap[w.heap.size]? = some (.cells #[.int .u32 r.a, .int .i64 r.m, .int .u8 r.fr, .int .i64 r.di, .int .i64 r.me, .int .i64 r.ta, .string ⟨r.nm.toArray⟩, .int .u32 r.ho, .bool r.dc] 27 (0, 0)) from hk)
      go_upto_region 3 with fail
      go_cut [4] (fun s4 wx => s4 = .string T5 ∧ Hid (wx.heap[w.heap.size]? = some (rtObj r) ∧ Below w.heap.size w wx))
      case first =>
        have F0 := cell_regrown c0
        have F1 := cell_regrown c1
        have F2 := cell_regrown c2
        have F3 := cell_regrown c3
        have F4 := cell_regrown c4
        have F5 := cell_regrown c5
        clear c0 c1 c2 c3 c4 c5 c6 c7 c8 z5
        generalize (⟨(prefT r.a r.m).toArray⟩ : ByteArray) = q0 at *
        generalize (⟨(fromW r.fr).toArray⟩ : ByteArray) = q1 at *
        generalize (⟨(Lib.decDigits r.di.toNat).toArray⟩ : ByteArray) = q2 at *
        generalize (⟨(Lib.decDigits r.me.toNat).toArray⟩ : ByteArray) = q3 at *
        generalize (⟨(Lib.decDigits r.ta.toNat).toArray⟩ : ByteArray) = q4 at *
        refine wp_region_quiet_below (by kernel_rfl) (by kernel_rfl) ?_
        repeat (first | go_big_quiet_step ((first | (go_at_call 27; with_reducible exact Calls.regrown_of (KP.out _)) | (go_at_call 24; with_reducible exact Calls.regrown_of (KF.out _)) | (go_at_call 28; with_reducible exact Calls.regrown_of (KD.out _)) | (go_at_call 28; with_reducible exact Calls.regrown_of (KM.out _)) | (go_at_call 28; with_reducible exact Calls.regrown_of (KT.out _)))) | quiet_step ((first | (go_at_call 27; with_reducible exact Calls.regrown_of (KP.out _)) | (go_at_call 24; with_reducible exact Calls.regrown_of (KF.out _)) | (go_at_call 28; with_reducible exact Calls.regrown_of (KD.out _)) | (go_at_call 28; with_reducible exact Calls.regrown_of (KM.out _)) | (go_at_call 28; with_reducible exact Calls.regrown_of (KT.out _)))))
        refine wpQuiet_nil ?_
        intro _ hw'
        obtain ⟨⟨nq, osq⟩, hw''⟩ := hw'
        subst hw''
        go_wp2_with fail
        go_meet
        have hbr := below_regrown wa nq osq
        exact ⟨by rw [HT5.out], Lib.hid ⟨blk_below hbr hk, below_call hbw hbr⟩⟩
      case rest =>
        obtain ⟨rfl, hcut⟩ := hcut
        obtain ⟨hkq, hbq⟩ := hcut.out
        rename World => wq
        clear hcut hk hbw KP KF KD KM KT z0 z1 z2 z3 z4 c0 c1 c2 c3 c4 c5 c6 c7 c8
        obtain ⟨c0, c1, c2, c3, c4, c5, c6, c7, c8⟩ := blk9 (t := 27) (show wq.heap[w.heap.size]? = some (.cells #[.int .u32 r.a, .int .i64 r.m, .int .u8 r.fr, .int .i64 r.di, .int .i64 r.me, .int .i64 r.ta, .string ⟨r.nm.toArray⟩, .int .u32 r.ho, .bool r.dc] 27 (0, 0)) from hkq)
        have za := textA_size r.ho.toNat
        have KA := Lib.hid (show ∀ W, Calls Tryz.prog 29 #[.int .u32 r.ho] W fun e w' => e = .returned (.string (textA r.ho.toNat)) ∧ Below W.heap.size W w' from fun W => by
          have h := refText_any r.ho.toNat (by have := r.hho; omega) W
          rw [Int.toNat_of_nonneg r.hho.1] at h
          exact h)
        have zl : r.nm.length ≤ 32 := by
          rcases K6.out with h | h
          · rw [h]; simp
          · exact name_len h
        have zn : (⟨r.nm.toArray⟩ : ByteArray).size ≤ 32 := bl_sizeR zl
        cases hd : r.dc with
        | true =>
          obtain ⟨q3, q2⟩ := K7.out hd
          rw [hd] at c8
          have d6 : (r.ho != 0) = false := by simpa using q3
          have d5 : r.nm.isEmpty = true := by simpa using q2
          have d4 : (r.nm == []) = true := by simpa using q2
          have d9 : (!r.nm.isEmpty) = false := by rw [d5]; rfl
          have if3 := Lib.hid (show r.hopW = [] from by unfold RtV.hopW; rw [if_pos q3])
          have if2 := Lib.hid (show r.nmW = [] from by unfold RtV.nmW; rw [if_pos q2])
          have ifd := Lib.hid (show r.dcW = [discW] from by unfold RtV.dcW; rw [hd]; rfl)
          clear q3 q2
          go_wp2
          go_ret2
          exact ⟨by rw [ht.out.1, ht.out.2, HWD.out, if3.out, if2.out, ifd.out, HTT.out, cat_disc _ HNE.out]; simp, hbq⟩
        | false =>
          rw [hd] at c8
          have ifd := Lib.hid (show r.dcW = [] from by unfold RtV.dcW; rw [hd]; rfl)
          by_cases q3 : r.ho = 0
          · have d6 : (r.ho != 0) = false := by simpa using q3
            have if3 := Lib.hid (show r.hopW = [] from by unfold RtV.hopW; rw [if_pos q3])
            by_cases q2 : r.nm = []
            · have d5 : r.nm.isEmpty = true := by simpa using q2
              have d4 : (r.nm == []) = true := by simpa using q2
              have d9 : (!r.nm.isEmpty) = false := by rw [d5]; rfl
              have if2 := Lib.hid (show r.nmW = [] from by unfold RtV.nmW; rw [if_pos q2])
              clear q3 q2
              go_wp2
              go_ret2
              exact ⟨by rw [ht.out.1, ht.out.2, HWD.out, if3.out, if2.out, ifd.out, HTT.out]; simp, hbq⟩
            · have d5 : r.nm.isEmpty = false := by simpa using q2
              have d4 : (r.nm == []) = false := by simpa using q2
              have d9 : (!r.nm.isEmpty) = true := by rw [d5]; rfl
              have nif2 := Lib.hid (show r.nmW = [onW, r.nm] from by unfold RtV.nmW; rw [if_neg q2])
              clear q3 q2
              go_wp2
              go_ret2
              exact ⟨by rw [ht.out.1, ht.out.2, HWD.out, if3.out, nif2.out, ifd.out, HTT.out, cat_on _ HNE.out _]; simp, hbq⟩
          · have d6 : (r.ho != 0) = true := by simpa using q3
            have nif3 := Lib.hid (show r.hopW = [viaW, (textA r.ho.toNat).data.toList] from by unfold RtV.hopW; rw [if_neg q3])
            generalize textA r.ho.toNat = qh at *
            by_cases q2 : r.nm = []
            · have d5 : r.nm.isEmpty = true := by simpa using q2
              have d4 : (r.nm == []) = true := by simpa using q2
              have d9 : (!r.nm.isEmpty) = false := by rw [d5]; rfl
              have if2 := Lib.hid (show r.nmW = [] from by unfold RtV.nmW; rw [if_pos q2])
              clear q3 q2
              go_wp2_with fail
              refine (KA.out _).mono ?_
              rintro e wz ⟨rfl, hb⟩
              have hkz := blk_below hb hkq
              have hbz := below_call hbq hb
              clear hb hkq hbq c0 c1 c2 c3 c4 c5 c6 c7 c8
              obtain ⟨c0, c1, c2, c3, c4, c5, c6, c7, c8⟩ := blk9 (t := 27) (show wz.heap[w.heap.size]? = some (.cells #[.int .u32 r.a, .int .i64 r.m, .int .u8 r.fr, .int .i64 r.di, .int .i64 r.me, .int .i64 r.ta, .string ⟨r.nm.toArray⟩, .int .u32 r.ho, .bool r.dc] 27 (0, 0)) from hkz)
              rw [hd] at c8
              go_wp2
              go_ret2
              exact ⟨by rw [ht.out.1, ht.out.2, HWD.out, nif3.out, if2.out, ifd.out, HTT.out, cat_via _ HNE.out _]; simp, hbz⟩
            · have d5 : r.nm.isEmpty = false := by simpa using q2
              have d4 : (r.nm == []) = false := by simpa using q2
              have d9 : (!r.nm.isEmpty) = true := by rw [d5]; rfl
              have nif2 := Lib.hid (show r.nmW = [onW, r.nm] from by unfold RtV.nmW; rw [if_neg q2])
              clear q3 q2
              go_wp2_with fail
              refine (KA.out _).mono ?_
              rintro e wz ⟨rfl, hb⟩
              have hkz := blk_below hb hkq
              have hbz := below_call hbq hb
              clear hb hkq hbq c0 c1 c2 c3 c4 c5 c6 c7 c8
              obtain ⟨c0, c1, c2, c3, c4, c5, c6, c7, c8⟩ := blk9 (t := 27) (show wz.heap[w.heap.size]? = some (.cells #[.int .u32 r.a, .int .i64 r.m, .int .u8 r.fr, .int .i64 r.di, .int .i64 r.me, .int .i64 r.ta, .string ⟨r.nm.toArray⟩, .int .u32 r.ho, .bool r.dc] 27 (0, 0)) from hkz)
              rw [hd] at c8
              go_wp2
              go_ret2
              exact ⟨by rw [ht.out.1, ht.out.2, HWD.out, nif3.out, nif2.out, ifd.out, HTT.out, cat_via _ HNE.out _, cat_on _ (by simp) _]; simp, hbz⟩
end Go.Proofs.YtpmoepipoafegaaGreatDoor

/-
  The document's parted: the words of a text (written by hand after Fx4).
-/
namespace Go.Proofs.YtpmoepipoafegaaGreatDoor
open Go Go.RowKit Go.Sort

def WInv (c0 : UInt8) (l : List UInt8) (k f : Nat) (L : List ByteArray) : Prop :=
  (k ≤ l.length ∧ f ≤ k ∧ pieces c0 l = L.map (·.data.toList) ++ pieces c0 (l.drop f) ∧ c0 ∉ (l.drop f).take (k - f)) ∨ (k = l.length + 1 ∧ pieces c0 l = L.map (·.data.toList))
theorem winv_start (c0 : UInt8) (l : List UInt8) : WInv c0 l 0 0 [] := Or.inl ⟨Nat.zero_le _, Nat.le_refl _, by simp, by simp⟩
theorem winv_skip {c0 : UInt8} {l : List UInt8} {k f : Nat} {L : List ByteArray} {x : UInt8} (h : WInv c0 l k f L) (hk : l[k]? = some x) (hx : x ≠ c0) : WInv c0 l (k + 1) f L := by
  have hkl := (List.getElem?_eq_some_iff.1 hk).1
  rcases h with ⟨h1, h2, h3, h4⟩ | ⟨h1, _⟩
  · refine Or.inl ⟨by omega, by omega, h3, ?_⟩
    rw [show k + 1 - f = (k - f) + 1 by omega, List.take_add_one]
    have e : (l.drop f)[k - f]? = some x := by rw [List.getElem?_drop, show f + (k - f) = k by omega, hk]
    rw [e]
    intro h
    rcases List.mem_append.1 h with h | h
    · exact h4 h
    · simp at h; exact hx h.symm
  · omega
theorem drop_splitW {c0 : UInt8} {l : List UInt8} {k f : Nat} (hf : f ≤ k) (hk : l[k]? = some c0) : l.drop f = (l.drop f).take (k - f) ++ c0 :: l.drop (k + 1) := by
  have hkl := (List.getElem?_eq_some_iff.1 hk).1
  have e : (l.drop f).drop (k - f) = c0 :: l.drop (k + 1) := by
    rw [List.drop_drop, show f + (k - f) = k by omega, List.drop_eq_getElem_cons hkl]
    congr 1
    exact Option.some.inj ((List.getElem?_eq_getElem hkl).symm.trans hk)
  rw [← e, List.take_append_drop]
theorem winv_cut {c0 : UInt8} {l : List UInt8} {k f : Nat} {L : List ByteArray} {b : ByteArray} (h : WInv c0 l k f L) (hk : l[k]? = some c0) (hb : b.data.toList = (l.drop f).take (k - f)) : WInv c0 l (k + 1) (k + 1) (L ++ [b]) := by
  have hkl := (List.getElem?_eq_some_iff.1 hk).1
  rcases h with ⟨h1, h2, h3, h4⟩ | ⟨h1, _⟩
  · refine Or.inl ⟨by omega, Nat.le_refl _, ?_, by simp⟩
    rw [h3, drop_splitW h2 hk, pieces_cons _ h4, List.map_append, List.append_assoc]
    simp [hb]
  · omega
theorem winv_end {c0 : UInt8} {l : List UInt8} {f : Nat} {L : List ByteArray} {b : ByteArray} (h : WInv c0 l l.length f L) (hb : b.data.toList = (l.drop f).take (l.length - f)) : WInv c0 l (l.length + 1) (l.length + 1) (L ++ [b]) := by
  rcases h with ⟨h1, h2, h3, h4⟩ | ⟨h1, _⟩
  · refine Or.inr ⟨rfl, ?_⟩
    have e : (l.drop f).take (l.length - f) = l.drop f := List.take_of_length_le (by simp)
    rw [e] at h4 hb
    rw [h3, pieces_none h4, List.map_append]
    simp [hb]
  · omega
theorem winv_done {c0 : UInt8} {l : List UInt8} {f : Nat} {L : List ByteArray} (h : WInv c0 l (l.length + 1) f L) : pieces c0 l = L.map (·.data.toList) := by
  rcases h with ⟨h1, _⟩ | ⟨_, h⟩
  · omega
  · exact h

set_option maxRecDepth 100000 in
set_option maxHeartbeats 4000000 in
theorem parted_any (s : ByteArray) (w : World) (hlim : s.size < 4294967281) :
    Calls Tryz.prog 37 #[.string s] w fun e w' => ∃ (v : Value) (L : List ByteArray), e = .returned v ∧ w'.ownsRow w.heap.size 9 1 v L.length (L.map Value.string) ∧ pieces 32 s.data.toList = L.map (·.data.toList) ∧ Below w.heap.size w w' := by
  obtain ⟨i0, hi, hz0, hz1, hz2⟩ := info_parts Tryz.infoStr
  have HS := Lib.hid (show s.size = s.data.toList.length from (Array.length_toList).symm)
  have t9 := Tryz.underlying9
  have HQ := Lib.hid (show ∀ (i : Nat) (h : i < s.size), Hid (s.data.toList[i]? = some (s[i]'h)) from fun i h => Lib.hid (by
    rw [Array.getElem?_toList]
    exact Array.getElem?_eq_getElem (xs := s.data) (i := i) h))
  go_enter Tryz.func37, Tryz.ntmps37
  go_wp2
  go_loopw [3, 4, 5] (fun v fr i wr => ∃ (k f : Nat) (L : List ByteArray), i = .int .i64 k ∧ fr = .int .i64 f ∧ wr.ownsRow w.heap.size 9 1 v L.length (L.map Value.string) ∧ Hid (WInv 32 s.data.toList k f L) ∧ f ≤ k ∧ k ≤ s.size + 1 ∧ L.length ≤ k ∧ Below w.heap.size w wr) (fun _ _ i _ => s.size + 1 - (intOf i).toNat)
  case atStart => exact ⟨0, 0, [], rfl, rfl, World.ownsRow_nil _ _ _ _, Lib.hid (winv_start _ _), by omega, by omega, by simp, Below.refl _ _⟩
  case round =>
    obtain ⟨k, f, L, rfl, rfl, hown, hp, hf, hk, hLk, hb⟩ := hrel
    by_cases hlt : k < s.size
    · have hI3 : (k : Int) < (s.size : Int) := by omega
      have hI4 : (0 : Int) ≤ k := by omega
      have hI5 : (k : Int) ≤ (s.size : Int) := by omega
      have hI6 : ((k : Int) == (s.size : Int)) = false := by simp; omega
      have hx := HQ.out k hlt
      obtain ⟨v, hv⟩ : ∃ v : Int, ((s[k]'hlt).toNat : Int) = v := ⟨_, rfl⟩
      by_cases h32 : s[k]'hlt = 32
      · have hv2 : (v == 32) = true := by rw [← hv, h32]; rfl
        have hcut := Lib.hid (winv_cut (b := s.extract f k) hp.out (by rw [hx.out, h32]) (by rw [Lib.extract_data]))
        clear h32 hx hp
        go_wp2_with (at_builtin; refine wpList_push rfl _ _ 45 rfl 9 i0 _ 1 16 Tryz.underlying45 hi hz0 hz1 hz2 rfl (by decide) (by decide) [.string (s.extract f k)] rfl rfl (by simp) hown rfl (one_str _) (by omega) hb.size hb (Nat.le_refl _) ?_; intro v2 w2 hown2 hb2)
        have hown3 : w2.ownsRow w.heap.size 9 1 v2 (L ++ [s.extract f k]).length ((L ++ [s.extract f k]).map Value.string) := by
          rw [List.length_append, List.map_append]; exact hown2
        clear hown2 hown
        go_wp2
        exact ⟨⟨k + 1, k + 1, L ++ [s.extract f k], by go_num, by go_num, hown3, hcut, by omega, by omega, by simp; omega, hb2⟩, by simp only [intOf]; omega⟩
      · have hv2 : (v == 32) = false := by
          simp
          intro h
          apply h32
          apply UInt8.toNat_inj.1
          have : (32 : UInt8).toNat = 32 := rfl
          omega
        have hskip := Lib.hid (winv_skip hp.out hx.out h32)
        clear h32 hx hp
        go_wp2
        exact ⟨⟨k + 1, f, L, by go_num, rfl, hown, hskip, by omega, by omega, by omega, hb⟩, by simp only [intOf]; omega⟩
    · by_cases heq : k = s.size
      · subst heq
        have hI5 : (s.size : Int) ≤ (s.size : Int) := by omega
        have hI6 : ((s.size : Int) == (s.size : Int)) = true := by simp
        have hcut := Lib.hid (winv_end (b := s.extract f s.size) (by have h := hp.out; rw [HS.out] at h; exact h) (by rw [Lib.extract_data, HS.out]))
        have hcut2 : Hid (WInv 32 s.data.toList (s.size + 1) (s.size + 1) (L ++ [s.extract f s.size])) := Lib.hid (by have h := hcut.out; rw [← HS.out] at h; exact h)
        clear hcut hp hlt
        go_wp2_with (at_builtin; refine wpList_push rfl _ _ 45 rfl 9 i0 _ 1 16 Tryz.underlying45 hi hz0 hz1 hz2 rfl (by decide) (by decide) [.string (s.extract f s.size)] rfl rfl (by simp) hown rfl (one_str _) (by omega) hb.size hb (Nat.le_refl _) ?_; intro v2 w2 hown2 hb2)
        have hown3 : w2.ownsRow w.heap.size 9 1 v2 (L ++ [s.extract f s.size]).length ((L ++ [s.extract f s.size]).map Value.string) := by
          rw [List.length_append, List.map_append]; exact hown2
        clear hown2 hown
        go_wp2
        exact ⟨⟨s.size + 1, s.size + 1, L ++ [s.extract f s.size], by go_num, by go_num, hown3, hcut2, by omega, by omega, by simp; omega, hb2⟩, by simp only [intOf]; omega⟩
      · obtain rfl : k = s.size + 1 := by omega
        have hI5 : ¬ ((s.size + 1 : Nat) : Int) ≤ (s.size : Int) := by omega
        have hP := Lib.hid (winv_done (by have h := hp.out; rw [HS.out] at h; exact h) : pieces 32 s.data.toList = L.map (·.data.toList))
        clear hp hlt heq
        go_wp2
        go_ret
        exact ⟨_, rfl, L, hown, hP.out, hb⟩
end Go.Proofs.YtpmoepipoafegaaGreatDoor

/-
  What the document reads of a text's words, step by step: plain laws; no walk.
-/
namespace Go.Proofs.YtpmoepipoafegaaGreatDoor
open Go Go.RowKit Go.Sort

theorem from_of {x : List UInt8} {f : Int} (h1 : 1 ≤ f) (h : fromI x = f) : x = fromW f := by
  unfold fromI at h
  cases hi : fromsL.idxOf? x with
  | none => rw [hi] at h; simp at h; omega
  | some k =>
    rw [hi] at h
    simp only [Option.getD_some] at h
    obtain ⟨hk, hg, _⟩ := List.idxOf?_eq_some_iff.1 hi
    have hx : x = fromsL[k] := by simpa using hg.symm
    have hk' : k < 9 := hk
    subst h
    have : k = 1 ∨ k = 2 ∨ k = 3 ∨ k = 4 ∨ k = 5 ∨ k = 6 ∨ k = 7 ∨ k = 8 := by omega
    rcases this with rfl | rfl | rfl | rfl | rfl | rfl | rfl | rfl <;> exact hx
/-- What the first loop of the document's Parse has stored when it stands at k. -/
def FInv (x : List UInt8) (k F : Int) : Prop := F = if fromI x < k then fromI x else 0
theorem finv_start (x : List UInt8) : FInv x 1 0 := by
  unfold FInv
  have := fromI_lt x
  split <;> omega
theorem finv_hit {x : List UInt8} {k : Int} (h1 : 1 ≤ k) (h2 : k ≤ 8) (e : fromW k = x) : FInv x (k + 1) k := by
  unfold FInv
  have := fromI_W h1 h2
  rw [e] at this
  rw [this, if_pos (by omega)]
theorem finv_miss {x : List UInt8} {k F : Int} (h : FInv x k F) (h1 : 1 ≤ k) (e : ¬ fromW k = x) : FInv x (k + 1) F := by
  unfold FInv at *
  have hne : fromI x ≠ k := fun h => e (from_of h1 h).symm
  rw [h]
  by_cases hk : fromI x < k
  · rw [if_pos hk, if_pos (by omega)]
  · rw [if_neg hk, if_neg (by omega)]
theorem finv_done {x : List UInt8} {F : Int} (h : FInv x 9 F) : F = fromI x := by
  unfold FInv at h
  have := fromI_lt x
  rw [if_pos (by omega)] at h
  exact h
theorem finv_lt {x : List UInt8} {k F : Int} (h : FInv x k F) : 0 ≤ F ∧ F < 9 := by
  unfold FInv at h
  have := fromI_lt x
  split at h <;> omega
/-- What the second loop has read when it stands at the k-th word behind the first five. -/
def SInv (R : List (List UInt8)) (k : Nat) (st : Int × List UInt8 × Bool) : Prop := scanD (decide (k = 0)) (R.drop k) st = restD R ∧ 0 ≤ st.1 ∧ st.1 < 4294967296
theorem sinv_start (R : List (List UInt8)) : SInv R 0 (0, [], false) := ⟨rfl, by decide, by decide⟩
theorem sinv_done {R : List (List UInt8)} {k : Nat} {st : Int × List UInt8 × Bool} (h : SInv R k st) (hk : R.length ≤ k) : restD R = st := by
  have := h.1
  rw [List.drop_of_length_le hk] at this
  exact this.symm
theorem drop_two {R : List (List UInt8)} {k : Nat} {x y : List UInt8} (hx : R[k]? = some x) (hy : R[k + 1]? = some y) : R.drop k = x :: y :: R.drop (k + 2) := by
  obtain ⟨h1, e1⟩ := List.getElem?_eq_some_iff.1 hx
  obtain ⟨h2, e2⟩ := List.getElem?_eq_some_iff.1 hy
  rw [List.drop_eq_getElem_cons h1, List.drop_eq_getElem_cons h2, e1, e2]
theorem drop_one {R : List (List UInt8)} {k : Nat} {x : List UInt8} (hx : R[k]? = some x) : R.drop k = x :: R.drop (k + 1) := by
  obtain ⟨h1, e1⟩ := List.getElem?_eq_some_iff.1 hx
  rw [List.drop_eq_getElem_cons h1, e1]
theorem sinv_via {R : List (List UInt8)} {st : Int × List UInt8 × Bool} {y : List UInt8} (h : SInv R 0 st) (hx : R[0]? = some viaW) (hy : R[0 + 1]? = some y) : SInv R 2 (adV (parseB y), st.2) := by
  have e := h.1
  rw [drop_two hx hy, scanD, if_pos ⟨rfl, rfl⟩] at e
  exact ⟨e, adV_lt y⟩
theorem sinv_on {R : List (List UInt8)} {k : Nat} {st : Int × List UInt8 × Bool} {y : List UInt8} (h : SInv R k st) (hx : R[k]? = some onW) (hy : R[k + 1]? = some y) : SInv R (k + 2) (st.1, y, st.2.2) := by
  have e := h.1
  rw [drop_two hx hy, scanD, if_neg (fun h => absurd h.1 (by decide)), if_pos rfl] at e
  refine ⟨?_, h.2⟩
  rw [show decide (k + 2 = 0) = false by simp]
  exact e
theorem sinv_disc {R : List (List UInt8)} {k : Nat} {st : Int × List UInt8 × Bool} (h : SInv R k st) (hx : R[k]? = some discW) : SInv R (k + 1) (st.1, st.2.1, true) := by
  have e := h.1
  refine ⟨?_, h.2⟩
  rw [show decide (k + 1 = 0) = false by simp]
  rw [drop_one hx] at e
  cases hd : R.drop (k + 1) with
  | nil => rw [hd, scanD, if_pos rfl] at e; exact e
  | cons y t => rw [hd, scanD, if_neg (fun h => absurd h.1 (by decide)), if_neg (by decide), if_pos rfl] at e; exact e
theorem sinv_skip {R : List (List UInt8)} {k : Nat} {st : Int × List UInt8 × Bool} {x : List UInt8} (h : SInv R k st) (hx : R[k]? = some x) (h1 : x = viaW → k = 0 → R.length ≤ k + 1) (h2 : x = onW → R.length ≤ k + 1) (h3 : x ≠ discW) : SInv R (k + 1) st := by
  have e := h.1
  refine ⟨?_, h.2⟩
  rw [show decide (k + 1 = 0) = false by simp]
  rw [drop_one hx] at e
  cases hd : R.drop (k + 1) with
  | nil => rw [hd, scanD, if_neg h3] at e; exact e
  | cons y t =>
    have hl : k + 1 < R.length := by
      apply Decidable.byContradiction
      intro hn
      rw [List.drop_of_length_le (by omega)] at hd
      cases hd
    rw [hd, scanD, if_neg (fun hv => by have := h1 hv.1 (of_decide_eq_true hv.2); omega), if_neg (fun hv => by have := h2 hv; omega), if_neg h3] at e
    exact e
end Go.Proofs.YtpmoepipoafegaaGreatDoor

/-
  Walks over the document's addresses: ParsePrefix.
-/
namespace Go.Proofs.YtpmoepipoafegaaGreatDoor
open Go Go.RowKit Go.Sort

theorem cut_none {l : List UInt8} (h : (47 : UInt8) ∉ l) : ppO l = none := by
  unfold ppO
  rw [if_neg]
  intro hc
  have e := cut_back (l := l) (c := 47) (x := (Lib.cut l [47]).1) (y := (Lib.cut l [47]).2.1) (by rw [← hc])
  exact h (by rw [e]; simp)
theorem ppO_at {l x y : List UInt8} (h : l = x ++ 47 :: y) (hx : (47 : UInt8) ∉ x) : ppO l = (parseB x).bind fun a => (readB y 32).map fun n => (a, n) := by
  unfold ppO
  rw [h, cut_hit1 _ hx]
  rfl
theorem split_at {l : List UInt8} {k : Nat} {c : UInt8} (h : l[k]? = some c) : l = l.take k ++ c :: l.drop (k + 1) := by
  have hkl := (List.getElem?_eq_some_iff.1 h).1
  have e : l.drop k = c :: l.drop (k + 1) := by
    rw [List.drop_eq_getElem_cons hkl]
    congr 1
    exact Option.some.inj ((List.getElem?_eq_getElem hkl).symm.trans h)
  rw [← e, List.take_append_drop]
theorem take_no {l : List UInt8} {k : Nat} {c x : UInt8} (h : c ∉ l.take k) (hk : l[k]? = some x) (hx : x ≠ c) : c ∉ l.take (k + 1) := by
  rw [List.take_add_one, hk]
  intro hm
  rcases List.mem_append.1 hm with hm | hm
  · exact h hm
  · simp at hm; exact hx hm.symm

set_option maxRecDepth 100000 in
set_option maxHeartbeats 4000000 in
theorem refParsePrefix_any (s : ByteArray) (w : World) (hlim : s.size < 4294967281) :
    Calls Tryz.prog 38 #[.string s] w fun e w' => e = .returned (.tuple #[.agg #[.int .u32 (ppA s.data.toList), .int .i64 (ppN s.data.toList)], .int .i64 (ppE s.data.toList)]) ∧ Below w.heap.size w w' := by
  have HS := Lib.hid (show s.size = s.data.toList.length from (Array.length_toList).symm)
  have t9 := Tryz.underlying9
  have HQ := Lib.hid (show ∀ (i : Nat) (h : i < s.size), Hid (s.data.toList[i]? = some (s[i]'h)) from fun i h => Lib.hid (by
    rw [Array.getElem?_toList]
    exact Array.getElem?_eq_getElem (xs := s.data) (i := i) h))
  have hk0 := heap_alloc_new w (.cells #[.int .u32 0, .int .i64 0] 25)
  have hb0 : Below w.heap.size w (w.alloc (.cells #[.int .u32 0, .int .i64 0] 25)) := (Below.refl _ _).alloc (Nat.le_refl _) _
  go_enter Tryz.func38, Tryz.ntmps38
  go_wp2
  generalize w.alloc (.cells #[.int .u32 0, .int .i64 0] 25) = W at *
  have hsz0 : w.heap.size < W.heap.size := lt_of_block hk0
  go_loop [4] (fun i => ∃ k : Nat, i = .int .i64 k ∧ k ≤ s.size ∧ Hid ((47 : UInt8) ∉ s.data.toList.take k)) (fun i => s.size - (intOf i).toNat)
  case atStart => exact ⟨0, rfl, by omega, Lib.hid (by simp)⟩
  case round =>
    obtain ⟨k, rfl, hk, hno⟩ := hrel
    obtain ⟨c0, c1, f0, f1⟩ := two_cells hk0
    have HK := Lib.hid hk0
    clear hk0
    by_cases hlt : k < s.size
    · have hI3 : (k : Int) < (s.size : Int) := by omega
      have hI4 : (0 : Int) ≤ k := by omega
      have hI5 : (k : Int) ≤ (s.size : Int) := by omega
      have hx := HQ.out k hlt
      obtain ⟨v, hv⟩ : ∃ v : Int, ((s[k]'hlt).toNat : Int) = v := ⟨_, rfl⟩
      by_cases h47 : s[k]'hlt = 47
      · have hv2 : (v == 47) = true := by rw [← hv, h47]; rfl
        have hO := Lib.hid (ppO_at (split_at (by rw [hx.out, h47])) hno.out)
        have e1 : (s.extract 0 k).data.toList = s.data.toList.take k := by rw [Lib.extract_data]; simp
        have e2 : (s.extract (k + 1) s.size).data.toList = s.data.toList.drop (k + 1) := by rw [Lib.extract_data, HS.out]; exact List.take_of_length_le (by simp)
        have hP := Lib.hid (show ∀ u : World, Calls Tryz.prog 40 #[.string (s.extract 0 k)] u fun e w' => e = .returned (.tuple #[.int .u32 (adV (parseB (s.data.toList.take k))), .int .i64 (adE (parseB (s.data.toList.take k)))]) ∧ Below u.heap.size u w' from fun u => by
          have h := refParse_any (s.extract 0 k) u (by have h1 : (s.extract 0 k).size = (s.extract 0 k).data.toList.length := (Array.length_toList).symm; rw [h1, e1, List.length_take]; omega)
          rw [e1] at h; exact h)
        have hR := Lib.hid (show ∀ u : World, Calls Tryz.prog 60 #[.string (s.extract (k + 1) s.size), .int .i64 32] u fun e w' => e = .returned (.int .i64 (rdV (s.data.toList.drop (k + 1)) 32)) ∧ u = w' from fun u => by
          have h := refRead_any (s.extract (k + 1) s.size) 32 (by omega) u
          rw [e2] at h; exact h)
        clear e1 e2 h47 hx hno
        generalize s.data.toList.take k = x at *
        generalize s.data.toList.drop (k + 1) = y at *
        go_wp2_with fail
        refine (hP.out _).mono ?_
        rintro e w1 ⟨rfl, hb1⟩
        have hbw := hb0.trans (hb1.mono hb0.size)
        have K1 := blk_below hb1 HK.out
        clear c0 c1 f0 f1 hb1
        obtain ⟨c0, c1, f0, f1⟩ := two_cells K1
        have hsz1 := lt_of_block K1
        have HK1 := Lib.hid K1
        clear K1
        go_wp2_with fail
        refine (hR.out _).mono ?_
        rintro e w2 ⟨rfl, rfl⟩
        cases ha : parseB x with
        | none =>
          have ea : adE (none : Option Nat) = 4 := rfl
          have hN := Lib.hid (pp_none (l := s.data.toList) (by rw [hO.out]; simp [ha]))
          clear hO
          go_wp2
          exact bodyPost_ret (results_p (t1 := 2) (t3 := 3) (g := w.heap.size) Tryz.results38 rfl rfl (set_1 (set_0 HK1.out))) rfl ⟨ret_p2 ⟨hN.out.2.1.symm, hN.out.2.2.symm, hN.out.1.symm⟩, (hbw.setCell (Nat.le_refl _) _).setCell (Nat.le_refl _) _⟩
        | some a =>
        have ea : adE (some a) = 0 := rfl
        have ev : adV (some a) = (a : Int) := rfl
        have hal := parseB_lt ha
        cases hb : readB y 32 with
        | none =>
          have hr := rdV_none hb
          have hN := Lib.hid (pp_none (l := s.data.toList) (by rw [hO.out]; simp [ha, hb]))
          clear hO
          go_wp2
          exact bodyPost_ret (results_p (t1 := 2) (t3 := 3) (g := w.heap.size) Tryz.results38 rfl rfl (set_1 (set_0 HK1.out))) rfl ⟨ret_p2 ⟨hN.out.2.1.symm, hN.out.2.2.symm, hN.out.1.symm⟩, (hbw.setCell (Nat.le_refl _) _).setCell (Nat.le_refl _) _⟩
        | some n =>
          have hr := rdV_some hb
          have hnl := readB_le hb
          have hO2 := Lib.hid (show ppO s.data.toList = some (a, n) by rw [hO.out, ha]; simp [hb])
          have hn0 : ¬ (n : Int) < 0 := by omega
          clear hO
          by_cases hc : chk a n = 0
          · have hd : (chk a n != 0) = false := by simp [hc]
            have hY := Lib.hid (pp_yes hO2.out hc)
            clear hc ha hb
            go_wp2_with fail
            refine (refCheck_any _ _ _ (by omega) (by omega)).mono ?_
            rintro e w4 ⟨rfl, hb4⟩
            have K3 := blk_below hb4 ((Below.heap_alloc w1 (.cells #[.int .u32 a, .int .i64 n] 25) _ hsz1).trans HK1.out)
            have K4 := blk_below hb4 (blk1 w1 (.cells #[.int .u32 a, .int .i64 n] 25))
            have hbw4 := below_call (hbw.alloc hbw.size _) hb4
            clear c0 c1 f0 f1 hb4
            obtain ⟨c0, c1, f0, f1⟩ := two_cells K3
            obtain ⟨c2, c3, f2, f3⟩ := two_cells K4
            have HK4 := Lib.hid K3
            have hne : w.heap.size ≠ w1.heap.size := by omega
            clear K3 K4
            go_wp2
            exact bodyPost_ret (results_p (t1 := 2) (t3 := 3) (g := w.heap.size) Tryz.results38 rfl rfl (set_1 (set_0 HK4.out))) rfl ⟨ret_p2 ⟨hY.out.2.1.symm, hY.out.2.2.symm, hY.out.1.symm⟩, (hbw4.setCell (Nat.le_refl _) _).setCell (Nat.le_refl _) _⟩
          · have hd : (chk a n != 0) = true := by simp [hc]
            have hY := Lib.hid (pp_no hO2.out hc)
            have h10 := Lib.hid (show chk (a : Int) (n : Int) = 10 from by
              rcases (show (a : Int) % sz n = 0 ∨ ¬ (a : Int) % sz n = 0 by omega) with h | h
              · exact absurd (chk_zero a n (by omega) (by omega) h) hc
              · exact chk_mask a n (by omega) (by omega) h)
            clear hc ha hb
            go_wp2_with fail
            refine (refCheck_any _ _ _ (by omega) (by omega)).mono ?_
            rintro e w4 ⟨rfl, hb4⟩
            have K3 := blk_below hb4 ((Below.heap_alloc w1 (.cells #[.int .u32 a, .int .i64 n] 25) _ hsz1).trans HK1.out)
            have K4 := blk_below hb4 (blk1 w1 (.cells #[.int .u32 a, .int .i64 n] 25))
            have hbw4 := below_call (hbw.alloc hbw.size _) hb4
            clear c0 c1 f0 f1 hb4
            obtain ⟨c0, c1, f0, f1⟩ := two_cells K3
            obtain ⟨c2, c3, f2, f3⟩ := two_cells K4
            have HK4 := Lib.hid K3
            have hne : w.heap.size ≠ w1.heap.size := by omega
            clear K3 K4
            go_wp2
            exact bodyPost_ret (results_p (t1 := 2) (t3 := 3) (g := w.heap.size) Tryz.results38 rfl rfl (set_1 (set_0 HK4.out))) rfl ⟨ret_p2 ⟨hY.out.2.1.symm, hY.out.2.2.symm, by rw [hY.out.1, h10.out]⟩, (hbw4.setCell (Nat.le_refl _) _).setCell (Nat.le_refl _) _⟩
      · have hv2 : (v == 47) = false := by
          simp
          intro h
          apply h47
          apply UInt8.toNat_inj.1
          have : (47 : UInt8).toNat = 47 := rfl
          omega
        have hno2 := Lib.hid (take_no hno.out hx.out h47)
        clear h47 hx hno
        go_wp2
        exact ⟨⟨k + 1, by go_num, by omega, hno2⟩, by simp only [intOf]; omega⟩
    · obtain rfl : k = s.size := by omega
      have hN := Lib.hid (pp_none (l := s.data.toList) (cut_none (by have h := hno.out; rw [HS.out, List.take_length] at h; exact h)))
      clear hno
      go_wp2
      exact bodyPost_ret (results_p (t1 := 2) (t3 := 3) (g := w.heap.size) Tryz.results38 rfl rfl (set_1 (set_0 HK.out))) rfl ⟨ret_p2 ⟨hN.out.2.1.symm, hN.out.2.2.symm, hN.out.1.symm⟩, (hb0.setCell (Nat.le_refl _) _).setCell (Nat.le_refl _) _⟩
end Go.Proofs.YtpmoepipoafegaaGreatDoor

/-
  The document's Parse of a route (written by wip/gen/genrd4.py).
-/
namespace Go.Proofs.YtpmoepipoafegaaGreatDoor
open Go Go.RowKit Go.Sort

def rqObj (A M F D E T : Int) (nm : ByteArray) (H : Int) (C : Bool) : Obj := .cells #[.int .u32 A, .int .i64 M, .int .u8 F, .int .i64 D, .int .i64 E, .int .i64 T, .string nm, .int .u32 H, .bool C] 27
theorem rq_blk {w : World} {g : Nat} {A M F D E T : Int} {nm : ByteArray} {H : Int} {C : Bool} (h : w.heap[g]? = some (rqObj A M F D E T nm H C)) : w.cell? ⟨g, 0, none⟩ = some (Value.int .u32 A) ∧ w.cell? ⟨g, 1, none⟩ = some (Value.int .i64 M) ∧ w.cell? ⟨g, 2, none⟩ = some (Value.int .u8 F) ∧ w.cell? ⟨g, 3, none⟩ = some (Value.int .i64 D) ∧ w.cell? ⟨g, 4, none⟩ = some (Value.int .i64 E) ∧ w.cell? ⟨g, 5, none⟩ = some (Value.int .i64 T) ∧ w.cell? ⟨g, 6, none⟩ = some (Value.string nm) ∧ w.cell? ⟨g, 7, none⟩ = some (Value.int .u32 H) ∧ w.cell? ⟨g, 8, none⟩ = some (Value.bool C) := blk9 (t := 27) h
theorem rq_cand {w0 w1 w2 w3 w4 : List UInt8} {rest : List (List UInt8)} {F : Int} {ho : Int} {nm : List UInt8} {dc : Bool} (hF : F = fromI w1) (h : restD rest = (ho, nm, dc)) :
    rqObj (ppA w0) (ppN w0) F (num08 w2) (num08 w3) (num08 w4) ⟨nm.toArray⟩ ho dc = rtObj (candQ w0 w1 w2 w3 w4 rest) := by
  unfold rqObj rtObj candQ
  dsimp only
  rw [h, hF]
set_option maxRecDepth 100000 in
set_option maxHeartbeats 8000000 in
theorem refRtParse_any (s : ByteArray) (w : World) (hlim : s.size < 4294967281) :
    Calls Tryz.prog 11 #[.string s] w fun e w' => e = .returned (.tuple #[.agg #[.int .u32 (roV s.data.toList).a, .int .i64 (roV s.data.toList).m, .int .u8 (roV s.data.toList).fr, .int .i64 (roV s.data.toList).di, .int .i64 (roV s.data.toList).me, .int .i64 (roV s.data.toList).ta, .string ⟨(roV s.data.toList).nm.toArray⟩, .int .u32 (roV s.data.toList).ho, .bool (roV s.data.toList).dc], .int .i64 (roE s.data.toList)]) ∧ Below w.heap.size w w' := by
  have hk0 := heap_alloc_new w (rtObj default)
  have hb0 := below1 w (rtObj default)
  have HP := Lib.hid (parted_any s (w.alloc (rtObj default)) hlim)
  have hlim1 : s.data.toList.length < 4294967281 := by rw [show s.data.toList.length = s.size from Array.length_toList]; exact hlim
  go_enter Tryz.func11, Tryz.ntmps11
  go_wp2_with fail
  refine HP.out.mono ?_
  rintro e wr ⟨v, L, rfl, hown, hP, hb⟩
  have hk1 := blk_below hb hk0
  have hb1 := below_call hb0 hb
  have hrd := Rd.of_own hown
  have hcnt := pieces_cnt 32 s.data.toList
  rw [hP, List.length_map] at hcnt
  have hlL : L.length < 4294967282 := by omega
  clear hb hb0 hk0 HP hown hcnt
  obtain ⟨A, c, rfl, hc⟩ := hrd.form
  have hP := Lib.hid hP
  have hsz : ∀ x ∈ L, x.size < 4294967281 := by
    intro x hx
    have h1 : x.data.toList ∈ pieces 32 s.data.toList := by
      rw [hP.out]
      exact List.mem_map.2 ⟨x, hx, rfl⟩
    have h2 := pieces_len 32 _ _ h1
    have e2 : x.data.toList.length = x.size := Array.length_toList
    omega
  by_cases h5 : 5 ≤ L.length
  · obtain ⟨x0, x1, x2, x3, x4, R, rfl⟩ := five_list h5
    obtain ⟨n, hn⟩ : ∃ n, (x0 :: x1 :: x2 :: x3 :: x4 :: R).length = n := ⟨_, rfl⟩
    rw [hn] at hrd hc hlL h5 ⊢
    have HNR := Lib.hid (show n = R.length + 5 by rw [← hn]; rfl)
    have l0 := hsz x0 (by simp)
    have HL := Lib.hid (fun x (hx : x ∈ R) => hsz x (by simp [hx]))
    obtain ⟨b, off, d, hv, _, _, hcell⟩ := hrd.pos (by omega)
    injection hv with hv1 _ hv3
    subst hv1 hv3
    have HC := Lib.hid (show ∀ (j : Nat) (x : ByteArray), (x0 :: x1 :: x2 :: x3 :: x4 :: R)[j]? = some x → wr.cell? ⟨b, off + j, none⟩ = some (.string x) from fun j x hx => hcell j _ (by rw [List.getElem?_map, hx]; rfl))
    have s0 : wr.cell? ⟨b, off, none⟩ = some (.string x0) := HC.out 0 x0 rfl
    have S1 := Lib.hid (HC.out 1 x1 rfl)
    have S2 := Lib.hid (HC.out 2 x2 rfl)
    have S3 := Lib.hid (HC.out 3 x3 rfl)
    have S4 := Lib.hid (HC.out 4 x4 rfl)
    have HW := Lib.hid (show ∀ (j : Nat) (x : ByteArray), 5 ≤ j → R[j - 5]? = some x → wr.cell? ⟨b, off + j, none⟩ = some (.string x) from fun j x hj hx => HC.out j x (by obtain ⟨i, rfl⟩ := Nat.exists_eq_add_of_le' hj; simpa using hx))
    have hd : ¬ (n : Int) < 5 := by omega
    have i0x : (0 : Int) < (n : Int) := by omega
    have i1x : (1 : Int) < (n : Int) := by omega
    have i2x : (2 : Int) < (n : Int) := by omega
    have i3x : (3 : Int) < (n : Int) := by omega
    have i4x : (4 : Int) < (n : Int) := by omega
    have hkR := heap_alloc_new wr (.cells #[.int .u32 (default : RtV).a, .int .i64 (default : RtV).m, .int .u8 (default : RtV).fr, .int .i64 (default : RtV).di, .int .i64 (default : RtV).me, .int .i64 (default : RtV).ta, .string ⟨(default : RtV).nm.toArray⟩, .int .u32 (default : RtV).ho, .bool (default : RtV).dc] 27)
    have hbR := below1 wr (.cells #[.int .u32 (default : RtV).a, .int .i64 (default : RtV).m, .int .u8 (default : RtV).fr, .int .i64 (default : RtV).di, .int .i64 (default : RtV).me, .int .i64 (default : RtV).ta, .string ⟨(default : RtV).nm.toArray⟩, .int .u32 (default : RtV).ho, .bool (default : RtV).dc] 27)
    have HO := Lib.hid (roO_candQ hP.out)
    clear hrd hcell HC hsz hn h5 hP hc
    go_upto_region 5 with fail
    have t0 := cell_kept hbR s0
    try change wpStmt _ _ _ _ _ _ (wr.alloc (.cells #[.int .u32 (default : RtV).a, .int .i64 (default : RtV).m, .int .u8 (default : RtV).fr, .int .i64 (default : RtV).di, .int .i64 (default : RtV).me, .int .i64 (default : RtV).ta, .string ⟨(default : RtV).nm.toArray⟩, .int .u32 (default : RtV).ho, .bool (default : RtV).dc] 27))
    generalize wr.alloc (.cells #[.int .u32 (default : RtV).a, .int .i64 (default : RtV).m, .int .u8 (default : RtV).fr, .int .i64 (default : RtV).di, .int .i64 (default : RtV).me, .int .i64 (default : RtV).ta, .string ⟨(default : RtV).nm.toArray⟩, .int .u32 (default : RtV).ho, .bool (default : RtV).dc] 27) = W1 at *
    have sz0 : w.heap.size < wr.heap.size := lt_of_block hk1
    have HK1 := Lib.hid hk1
    obtain ⟨gR, hgReq⟩ : ∃ gR, wr.heap.size = gR := ⟨_, rfl⟩
    have hgR : wr.heap.size ≤ gR := Nat.le_of_eq hgReq
    rw [hgReq] at hkR
    simp only [hgReq]
    clear hk1 s0
    have HPP := Lib.hid (refParsePrefix_any x0 W1 l0)
    go_wp2_with fail
    refine HPP.out.mono ?_
    rintro e w2 ⟨rfl, hbx⟩
    have hk2 := blk_below hbx hkR
    have hb2 := hbR.trans (hbx.mono hbR.size)
    have hkP := heap_alloc_new w2 (.cells #[.int .u32 (ppA x0.data.toList), .int .i64 (ppN x0.data.toList)] 25)
    have hk3 := blk_below (below1 w2 (.cells #[.int .u32 (ppA x0.data.toList), .int .i64 (ppN x0.data.toList)] 25)) hk2
    have hb3 := hb2.alloc hb2.size (.cells #[.int .u32 (ppA x0.data.toList), .int .i64 (ppN x0.data.toList)] 25)
    clear hbx hbR hkR t0 HPP hk2 hb2
    go_upto_region 6 with fail
    generalize w2.alloc (.cells #[.int .u32 (ppA x0.data.toList), .int .i64 (ppN x0.data.toList)] 25) = W3 at *
    generalize w2.heap.size = gP at *
    obtain ⟨p0, p1, _, _⟩ := two_cells hkP
    obtain ⟨c0, c1, c2, c3, c4, c5, c6, c7, c8⟩ := blk9 (t := 27) hk3
    have z0 := frozen_row hk3 0
    have z1 := frozen_row hk3 1
    go_upto_region 7 with fail
    have hk4 : ((W3.setCell ⟨gR, 0, none⟩ (.int .u32 (ppA x0.data.toList))).setCell ⟨gR, 1, none⟩ (.int .i64 (ppN x0.data.toList))).heap[gR]? = some (rqObj (ppA x0.data.toList) (ppN x0.data.toList) 0 0 0 0 ⟨#[]⟩ 0 false) := qset1 (qset0 hk3)
    have hb4 := (hb3.setCell (p := ⟨gR, 0, none⟩) hgR (.int .u32 (ppA x0.data.toList))).setCell (p := ⟨gR, 1, none⟩) hgR (.int .i64 (ppN x0.data.toList))
    clear p0 p1 c0 c1 c2 c3 c4 c5 c6 c7 c8 z0 z1 hkP hk3 hb3
    generalize (W3.setCell ⟨gR, 0, none⟩ (.int .u32 (ppA x0.data.toList))).setCell ⟨gR, 1, none⟩ (.int .i64 (ppN x0.data.toList)) = W4 at *
    have HB4 := Lib.hid (And.intro hk4 hb4)
    clear hk4 hb4
    go_wp2_with fail
    go_loopw [8] (fun i wx => ∃ (k : Nat) (F : Int), i = .int .u8 k ∧ 1 ≤ k ∧ k ≤ 9 ∧ Hid (FInv x1.data.toList k F) ∧ Hid (wx.heap[gR]? = some (rqObj (ppA x0.data.toList) (ppN x0.data.toList) F 0 0 0 ⟨#[]⟩ 0 false) ∧ Below wr.heap.size wr wx)) (fun i _ => 9 - (intOf i).toNat)
    case atStart => exact ⟨1, 0, rfl, by omega, by omega, Lib.hid (finv_start _), HB4⟩
    case round =>
      obtain ⟨k, F, rfl, hk1, hk9, HF, HB⟩ := hrel
      rename World => wx
      clear HB4
      have hkx := HB.out.1
      obtain ⟨c0, c1, c2, c3, c4, c5, c6, c7, c8⟩ := rq_blk hkx
      by_cases hlt : k ≤ 8
      · have hI : (k : Int) ≤ 8 := by omega
        have KF := Lib.hid (fun W => refFrom_any (k : Int) (by omega) W)
        have y1 := cell_kept HB.out.2 S1.out
        have hbx := HB.out.2
        have ff := finv_hit (x := x1.data.toList) (k := (k : Int)) (by omega) (by omega)
        have fm := finv_miss HF.out (by omega)
        have FH := Lib.hid ff
        have FM := Lib.hid fm
        have z2 := frozen_row hkx 2
        clear ff fm HF
        obtain ⟨q, hq⟩ : ∃ q : ByteArray, q = ⟨(fromW (k : Int)).toArray⟩ := ⟨_, rfl⟩
        have heq : (q.toList == x1.toList) = decide (fromW (k : Int) = x1.data.toList) := by rw [hq, list_of, list_of, Bool.eq_iff_iff]; simp
        have HQ := Lib.hid hq
        rw [← hq] at KF
        clear hq
        by_cases he : fromW (k : Int) = x1.data.toList
        · have hee : (q.toList == x1.toList) = true := by rw [heq]; simpa using he
          have FH2 := Lib.hid (FH.out he)
          clear he heq FH FM
          go_upto_region 10 with fail
          have G1 := cell_regrown y1
          refine wp_region_quiet_below (by kernel_rfl) (by kernel_rfl) ?_
          repeat (first | go_big_quiet_step ((go_at_call 24; with_reducible exact Calls.regrown_of (KF.out _))) | quiet_step ((go_at_call 24; with_reducible exact Calls.regrown_of (KF.out _))))
          refine wpQuiet_nil ?_
          intro _ hw'
          obtain ⟨⟨nq, osq⟩, hw''⟩ := hw'
          subst hw''
          have hbr := below_regrown wx nq osq
          clear y1 G1
          have hkq := blk_below hbr hkx
          have hbq := hbx.trans (hbr.mono hbx.size)
          clear c0 c1 c2 c3 c4 c5 c6 c7 c8 z2
          obtain ⟨c0, c1, c2, c3, c4, c5, c6, c7, c8⟩ := rq_blk hkq
          have z2 := frozen_row hkq 2
          go_wp2_with fail
          exact ⟨⟨k + 1, k, by go_num, by omega, by omega, Lib.hid (by simpa using FH2.out), Lib.hid ⟨qset2 hkq, hbq.setCell (p := ⟨gR, 2, none⟩) hgR _⟩⟩, by simp only [intOf]; omega⟩
        · have hee : (q.toList == x1.toList) = false := by rw [heq]; simpa using he
          have FM2 := Lib.hid (FM.out he)
          clear he heq FH FM
          go_upto_region 10 with fail
          have G1 := cell_regrown y1
          refine wp_region_quiet_below (by kernel_rfl) (by kernel_rfl) ?_
          repeat (first | go_big_quiet_step ((go_at_call 24; with_reducible exact Calls.regrown_of (KF.out _))) | quiet_step ((go_at_call 24; with_reducible exact Calls.regrown_of (KF.out _))))
          refine wpQuiet_nil ?_
          intro _ hw'
          obtain ⟨⟨nq, osq⟩, hw''⟩ := hw'
          subst hw''
          have hbr := below_regrown wx nq osq
          clear y1 G1
          have hkq := blk_below hbr hkx
          have hbq := hbx.trans (hbr.mono hbx.size)
          clear c0 c1 c2 c3 c4 c5 c6 c7 c8 z2
          go_wp2_with fail
          exact ⟨⟨k + 1, F, by go_num, by omega, by omega, Lib.hid (by simpa using FM2.out), Lib.hid ⟨hkq, hbq⟩⟩, by simp only [intOf]; omega⟩
      · obtain rfl : k = 9 := by omega
        have hI : ¬ ((9 : Nat) : Int) ≤ 8 := by omega
        have HF2 := Lib.hid (finv_done HF.out)
        clear HF hlt
        go_upto_region 12 with fail
        have KN := Lib.hid (fun x W => refNumR_any x W)
        have G2 := cell_regrown S2.out
        have G3 := cell_regrown S3.out
        have G4 := cell_regrown S4.out
        have hbx0 := HB.out.2
        refine wp_region_treeB (W0 := wr) (plains (.bar 3 (plains (.bar 7 (.bar 11 (.bar 13 (plains (.bar 15 (plains (.bar 17 .done) [16])) [14])))) [12])) [0, 1, 2, 4, 5, 6, 8, 9, 10]) hbx0 (by kernel_rfl) (by kernel_rfl) ?_
        have hd0 := below_drawn wx
        have hv0 := below_call hbx0 hd0
        have hq0 := blk_below hd0 hkx
        clear c0 c1 c2 c3 c4 c5 c6 c7 c8 hkx HB hd0 hbx0
        generalize { wx with drawn := wx.drawn + 1 } = V0 at *
        refine tree_take [0, 1, 2, 4, 5, 6, 8, 9, 10] [_, _, _, _, _, _, _, _, _] rfl rfl ?_
        simp only [List.getElem_toArray, List.getElem_cons_zero, List.getElem_cons_succ]
        repeat (go_big_quiet_step (fail))
        refine wpQuiet_nil ?_
        clear G2 G3 G4
        refine tree_bar ?_
        refine step_same rfl (by rfl) ?_
        simp only [List.getElem_toArray, List.getElem_cons_zero, List.getElem_cons_succ]
        go_simp
        refine (KN.out x2 V0).mono ?_
        rintro e V1 ⟨rfl, hb⟩
        have hv1 := below_call hv0 hb
        have hq1 := blk_below hb hq0
        refine ⟨regrown_of_below hv1, ?_⟩
        clear hb hv0 hq0
        refine tree_take [12] [_] rfl rfl ?_
        simp only [List.getElem_toArray, List.getElem_cons_zero, List.getElem_cons_succ]
        repeat (go_big_quiet_step (fail))
        refine wpQuiet_nil ?_
        refine tree_bar ?_
        refine step_same rfl (by rfl) ?_
        simp only [List.getElem_toArray, List.getElem_cons_zero, List.getElem_cons_succ]
        go_simp
        refine (KN.out x3 V1).mono ?_
        rintro e V2 ⟨rfl, hb⟩
        have hv2 := below_call hv1 hb
        have hq2 := blk_below hb hq1
        refine ⟨regrown_of_below hv2, ?_⟩
        clear hb hv1 hq1
        refine tree_bar ?_
        refine step_same rfl (by rfl) ?_
        simp only [List.getElem_toArray, List.getElem_cons_zero, List.getElem_cons_succ]
        go_simp
        refine (KN.out x4 V2).mono ?_
        rintro e V3 ⟨rfl, hb⟩
        have hv3 := below_call hv2 hb
        have hq3 := blk_below hb hq2
        refine ⟨regrown_of_below hv3, ?_⟩
        clear hb hv2 hq2
        refine tree_bar ?_
        obtain ⟨d0, d1, d2, d3, d4, d5, d6, d7, d8⟩ := rq_blk hq3
        have z3 := frozen_row hq3 3
        refine step_same rfl (by rfl) ?_
        simp only [List.getElem_toArray, List.getElem_cons_zero, List.getElem_cons_succ]
        go_simp
        have hv4 := hv3.setCell (p := ⟨gR, 3, none⟩) hgR (.int .i64 (num08 x2.data.toList))
        refine ⟨regrown_of_below hv4, ?_⟩
        have hq4 : (V3.setCell ⟨gR, 3, none⟩ (.int .i64 (num08 x2.data.toList))).heap[gR]? = some (rqObj (ppA x0.data.toList) (ppN x0.data.toList) F (num08 x2.data.toList) 0 0 ⟨#[]⟩ 0 false) := qset3 hq3
        clear d0 d1 d2 d3 d4 d5 d6 d7 d8 z3 hv3 hq3
        generalize V3.setCell ⟨gR, 3, none⟩ (.int .i64 (num08 x2.data.toList)) = V4 at *
        refine tree_take [14] [_] rfl rfl ?_
        simp only [List.getElem_toArray, List.getElem_cons_zero, List.getElem_cons_succ]
        repeat (go_big_quiet_step (fail))
        refine wpQuiet_nil ?_
        refine tree_bar ?_
        obtain ⟨d0, d1, d2, d3, d4, d5, d6, d7, d8⟩ := rq_blk hq4
        have z4 := frozen_row hq4 4
        refine step_same rfl (by rfl) ?_
        simp only [List.getElem_toArray, List.getElem_cons_zero, List.getElem_cons_succ]
        go_simp
        have hv5 := hv4.setCell (p := ⟨gR, 4, none⟩) hgR (.int .i64 (num08 x3.data.toList))
        refine ⟨regrown_of_below hv5, ?_⟩
        have hq5 : (V4.setCell ⟨gR, 4, none⟩ (.int .i64 (num08 x3.data.toList))).heap[gR]? = some (rqObj (ppA x0.data.toList) (ppN x0.data.toList) F (num08 x2.data.toList) (num08 x3.data.toList) 0 ⟨#[]⟩ 0 false) := qset4 hq4
        clear d0 d1 d2 d3 d4 d5 d6 d7 d8 z4 hv4 hq4
        generalize V4.setCell ⟨gR, 4, none⟩ (.int .i64 (num08 x3.data.toList)) = V5 at *
        refine tree_take [16] [_] rfl rfl ?_
        simp only [List.getElem_toArray, List.getElem_cons_zero, List.getElem_cons_succ]
        repeat (go_big_quiet_step (fail))
        refine wpQuiet_nil ?_
        refine tree_bar ?_
        obtain ⟨d0, d1, d2, d3, d4, d5, d6, d7, d8⟩ := rq_blk hq5
        have z5 := frozen_row hq5 5
        refine step_same rfl (by rfl) ?_
        simp only [List.getElem_toArray, List.getElem_cons_zero, List.getElem_cons_succ]
        go_simp
        have hv6 := hv5.setCell (p := ⟨gR, 5, none⟩) hgR (.int .i64 (num08 x4.data.toList))
        refine ⟨regrown_of_below hv6, ?_⟩
        have hq6 : (V5.setCell ⟨gR, 5, none⟩ (.int .i64 (num08 x4.data.toList))).heap[gR]? = some (rqObj (ppA x0.data.toList) (ppN x0.data.toList) F (num08 x2.data.toList) (num08 x3.data.toList) (num08 x4.data.toList) ⟨#[]⟩ 0 false) := qset5 hq5
        clear d0 d1 d2 d3 d4 d5 d6 d7 d8 z5 hv5 hq5
        generalize V5.setCell ⟨gR, 5, none⟩ (.int .i64 (num08 x4.data.toList)) = V6 at *
        refine tree_end ?_
        clear KN S1 S2 S3 S4
        have HB6 := Lib.hid (And.intro hq6 hv6)
        clear hq6 hv6 hI hk1 hk9
        go_wp2_with fail
        go_loopw [9] (fun i wx => ∃ (j : Nat) (ho : Int) (nm : List UInt8) (dc : Bool), i = .int .i64 j ∧ 5 ≤ j ∧ j ≤ n ∧ Hid (SInv (R.map (·.data.toList)) (j - 5) (ho, nm, dc)) ∧ Hid (wx.heap[gR]? = some (rqObj (ppA x0.data.toList) (ppN x0.data.toList) F (num08 x2.data.toList) (num08 x3.data.toList) (num08 x4.data.toList) ⟨nm.toArray⟩ ho dc) ∧ Below wr.heap.size wr wx)) (fun i _ => n - (intOf i).toNat)
        case atStart => exact ⟨5, 0, [], false, rfl, by omega, by omega, Lib.hid (sinv_start _), HB6⟩
        case round =>
          obtain ⟨j, ho, nm, dc, rfl, hj5, hjn, HS, HB⟩ := hrel
          rename World => wy
          clear HB6
          have hkx := HB.out.1
          have hbx := HB.out.2
          obtain ⟨c0, c1, c2, c3, c4, c5, c6, c7, c8⟩ := rq_blk hkx
          by_cases hlt : j < n
          · have hI : (j : Int) < (n : Int) := by omega
            have hjR : j - 5 < R.length := by have := HNR.out; omega
            obtain ⟨x, hx⟩ : ∃ x, R[j - 5]? = some x := ⟨_, List.getElem?_eq_getElem hjR⟩
            have e0 := cell_kept hbx (HW.out j x hj5 hx)
            have HX := Lib.hid (show (R.map (·.data.toList))[j - 5]? = some x.data.toList by rw [List.getElem?_map, hx]; rfl)
            have v1 : (x.toList == [118, 105, 97]) = decide (x.data.toList = viaW) := by rw [list_of, Bool.eq_iff_iff]; simp only [beq_iff_eq, decide_eq_true_eq]; exact Iff.rfl
            have o1 : (x.toList == [111, 110]) = decide (x.data.toList = onW) := by rw [list_of, Bool.eq_iff_iff]; simp only [beq_iff_eq, decide_eq_true_eq]; exact Iff.rfl
            have d1 : (x.toList == [100, 105, 115, 99, 97, 114, 100]) = decide (x.data.toList = discW) := by rw [list_of, Bool.eq_iff_iff]; simp only [beq_iff_eq, decide_eq_true_eq]; exact Iff.rfl
            have k1 : onW ≠ viaW := by decide
            have k2 : discW ≠ viaW := by decide
            have k3 : discW ≠ onW := by decide
            have hlen : (R.map (·.data.toList)).length = n - 5 := by rw [List.length_map]; have := HNR.out; omega
            have hjj : j - 5 + 1 = j + 1 - 5 := by omega
            have hjj2 : j - 5 + 2 = j + 1 + 1 - 5 := by omega
            clear hx
            by_cases hv : x.data.toList = viaW
            · have v2 : (x.toList == [118, 105, 97]) = true := by rw [v1]; simpa using hv
              have o2 : (x.toList == [111, 110]) = false := by rw [o1, hv]; decide
              have d2 : (x.toList == [100, 105, 115, 99, 97, 114, 100]) = false := by rw [d1, hv]; decide
              clear v1 o1 d1
              by_cases hn1 : j + 1 < n
              · have hJ : (j : Int) + 1 < (n : Int) := by omega
                by_cases h5j : j = 5
                · have hj5e : ((j : Int) == 5) = true := by simp; omega
                  have h1R : 1 < R.length := by have := HNR.out; omega
                  obtain ⟨y, hy⟩ : ∃ y, R[1]? = some y := ⟨_, List.getElem?_eq_getElem h1R⟩
                  have e1 : wy.cell? ⟨b, off + (j + 1), none⟩ = some (.string y) := cell_kept hbx (HW.out (j + 1) y (by omega) (by rw [show j + 1 - 5 = 1 by omega]; exact hy))
                  have ly := HL.out y (List.mem_of_getElem? hy)
                  have h0 : j - 5 = 0 := by omega
                  have HS0 := HS.out
                  have HX0 := HX.out
                  rw [h0] at HS0 HX0
                  have HS2 := Lib.hid (sinv_via HS0 (by rw [hv] at HX0; exact HX0) (y := y.data.toList) (by rw [List.getElem?_map, hy]; rfl))
                  rw [show 2 = j + 1 + 1 - 5 by omega] at HS2
                  have KP := Lib.hid (refParse_any y wy ly)
                  clear HS HX hv hy k1 k2 k3 hjj hjj2 h0 HS0 HX0 h5j
                  go_wp2_with fail
                  refine KP.out.mono ?_
                  rintro e wz ⟨rfl, hbz⟩
                  have hkz := blk_below hbz hkx
                  have hbq := hbx.trans (hbz.mono hbx.size)
                  clear c0 c1 c2 c3 c4 c5 c6 c7 c8 e0 e1
                  obtain ⟨c0, c1, c2, c3, c4, c5, c6, c7, c8⟩ := rq_blk hkz
                  have z7 := frozen_row hkz 7
                  go_wp2_with fail
                  exact ⟨⟨j + 1 + 1, _, nm, dc, by go_num, by omega, by omega, HS2, Lib.hid ⟨qset7 hkz, hbq.setCell (p := ⟨gR, 7, none⟩) hgR _⟩⟩, by simp only [intOf]; omega⟩
                · have hj5e : ((j : Int) == 5) = false := by simp; omega
                  have HS2 := Lib.hid (sinv_skip HS.out HX.out (fun _ h => by omega) (fun h => absurd (h.symm.trans hv) k1) (fun h => absurd (h.symm.trans hv) k2))
                  rw [hjj] at HS2
                  clear HS HX hv k1 k2 k3 hjj2
                  go_wp2_with fail
                  exact ⟨⟨j + 1, ho, nm, dc, by go_num, by omega, by omega, HS2, HB⟩, by simp only [intOf]; omega⟩
              · have hJ : ¬ (j : Int) + 1 < (n : Int) := by omega
                have HS2 := Lib.hid (sinv_skip HS.out HX.out (fun _ _ => by omega) (fun h => absurd (h.symm.trans hv) k1) (fun h => absurd (h.symm.trans hv) k2))
                rw [hjj] at HS2
                clear HS HX hv k1 k2 k3 hjj2
                go_wp2_with fail
                exact ⟨⟨j + 1, ho, nm, dc, by go_num, by omega, by omega, HS2, HB⟩, by simp only [intOf]; omega⟩
            · have v2 : (x.toList == [118, 105, 97]) = false := by rw [v1]; simpa using hv
              by_cases hon : x.data.toList = onW
              · have o2 : (x.toList == [111, 110]) = true := by rw [o1]; simpa using hon
                have d2 : (x.toList == [100, 105, 115, 99, 97, 114, 100]) = false := by rw [d1, hon]; decide
                clear v1 o1 d1
                by_cases hn1 : j + 1 < n
                · have hJ : (j : Int) + 1 < (n : Int) := by omega
                  have h1R : j + 1 - 5 < R.length := by have := HNR.out; omega
                  obtain ⟨y, hy⟩ : ∃ y, R[j + 1 - 5]? = some y := ⟨_, List.getElem?_eq_getElem h1R⟩
                  have e1 : wy.cell? ⟨b, off + (j + 1), none⟩ = some (.string y) := cell_kept hbx (HW.out (j + 1) y (by omega) hy)
                  have HS2 := Lib.hid (sinv_on HS.out (by have := HX.out; rw [hon] at this; exact this) (y := y.data.toList) (by rw [hjj, List.getElem?_map, hy]; rfl))
                  rw [hjj2] at HS2
                  have z6 := frozen_row hkx 6
                  clear HS HX hv hon hy k1 k2 k3 hjj
                  go_wp2_with fail
                  exact ⟨⟨j + 1 + 1, ho, y.data.toList, dc, by go_num, by omega, by omega, HS2, Lib.hid ⟨by rw [str_mk]; exact qset6 hkx, hbx.setCell (p := ⟨gR, 6, none⟩) hgR _⟩⟩, by simp only [intOf]; omega⟩
                · have hJ : ¬ (j : Int) + 1 < (n : Int) := by omega
                  have HS2 := Lib.hid (sinv_skip HS.out HX.out (fun h => absurd h hv) (fun _ => by omega) (fun h => absurd (h.symm.trans hon) k3))
                  rw [hjj] at HS2
                  clear HS HX hv hon k1 k2 k3 hjj2
                  go_wp2_with fail
                  exact ⟨⟨j + 1, ho, nm, dc, by go_num, by omega, by omega, HS2, HB⟩, by simp only [intOf]; omega⟩
              · have o2 : (x.toList == [111, 110]) = false := by rw [o1]; simpa using hon
                by_cases hdc : x.data.toList = discW
                · have d2 : (x.toList == [100, 105, 115, 99, 97, 114, 100]) = true := by rw [d1]; simpa using hdc
                  have HS2 := Lib.hid (sinv_disc HS.out (by have := HX.out; rw [hdc] at this; exact this))
                  rw [hjj] at HS2
                  have z8 := frozen_row hkx 8
                  clear v1 o1 d1 HS HX hv hon hdc k1 k2 k3 hjj2
                  go_wp2_with fail
                  exact ⟨⟨j + 1, ho, nm, true, by go_num, by omega, by omega, HS2, Lib.hid ⟨qset8 hkx, hbx.setCell (p := ⟨gR, 8, none⟩) hgR _⟩⟩, by simp only [intOf]; omega⟩
                · have d2 : (x.toList == [100, 105, 115, 99, 97, 114, 100]) = false := by rw [d1]; simpa using hdc
                  have HS2 := Lib.hid (sinv_skip HS.out HX.out (fun h => absurd h hv) (fun h => absurd h hon) hdc)
                  rw [hjj] at HS2
                  clear v1 o1 d1 HS HX hv hon hdc k1 k2 k3 hjj2
                  go_wp2_with fail
                  exact ⟨⟨j + 1, ho, nm, dc, by go_num, by omega, by omega, HS2, HB⟩, by simp only [intOf]; omega⟩
          · obtain rfl : j = n := by omega
            have hI : ¬ (j : Int) < (j : Int) := by omega
            have hR := sinv_done HS.out (by rw [List.length_map]; have := HNR.out; omega)
            have hO := HO.out
            have hkC : wy.heap[gR]? = some (rtObj (candQ x0.data.toList x1.data.toList x2.data.toList x3.data.toList x4.data.toList (R.map (·.data.toList)))) := by rw [← rq_cand HF2.out hR]; exact hkx
            clear c0 c1 c2 c3 c4 c5 c6 c7 c8 HS HB hkx HO
            generalize candQ x0.data.toList x1.data.toList x2.data.toList x3.data.toList x4.data.toList (R.map (·.data.toList)) = C at *
            have HO := Lib.hid hO
            clear hO hR
            obtain ⟨c0, c1, c2, c3, c4, c5, c6, c7, c8⟩ := rt_blk hkC
            have hT0 := refRtText_any C wy
            obtain ⟨tt, htt⟩ : ∃ x, (⟨C.told.toArray⟩ : ByteArray) = x := ⟨_, rfl⟩
            rw [htt] at hT0
            have hT := Lib.hid hT0
            have HTT := Lib.hid htt
            clear hT0 htt
            go_wp2_with fail
            refine hT.out.mono ?_
            rintro e wh ⟨rfl, hbh⟩
            have HKC2 := Lib.hid (blk_below hbh hkC)
            have hbW := hbx.trans (hbh.mono hbx.size)
            have hk0 := (hbW.block _ sz0).trans HK1.out
            have hbw := hb1.trans (hbW.mono hb1.size)
            clear c0 c1 c2 c3 c4 c5 c6 c7 c8 hkC hbh hT hbx
            obtain ⟨d0, d1, d2, d3, d4, d5, d6, d7, d8⟩ := rt_blk (r := default) hk0
            have z0 := frozen_row hk0 0
            have z1 := frozen_row hk0 1
            have z2 := frozen_row hk0 2
            have z3 := frozen_row hk0 3
            have z4 := frozen_row hk0 4
            have z5 := frozen_row hk0 5
            have z6 := frozen_row hk0 6
            have z7 := frozen_row hk0 7
            have z8 := frozen_row hk0 8
            have HKZ := Lib.hid hk0
            clear hk0
            by_cases he : ppE x0.data.toList = 0
            · have he1 : (ppE x0.data.toList != 0) = false := by simpa using he
              cases hok : C.ok with
              | true =>
                have ht1 := rt_told_yes hok
                have hs2 : (C.toldE != 0) = false := by rw [ht1.2]; rfl
                by_cases ht : C.text = s.data.toList
                · have hs1 : (tt.toList != s.toList) = false := by rw [← HTT.out, ht1.1, ht, str_mk]; simp
                  have hs3 : (tt.toList == s.toList) = true := by simpa using hs1
                  have hz := Lib.hid (ro_some (HO.out.trans (if_pos ⟨he, hok, ht⟩)))
                  have hkC2 := HKC2.out
                  obtain ⟨c0, c1, c2, c3, c4, c5, c6, c7, c8⟩ := rt_blk hkC2
                  clear hkC2
                  clear he hok ht ht1
                  go_wp2_with fail
                  exact bodyPost_ret (results_t (t1 := 2) (t3 := 3) (g := w.heap.size) (r := C) Tryz.results11 rfl rfl (qset8 (qset7 (qset6 (qset5 (qset4 (qset3 (qset2 (qset1 (qset0 HKZ.out)))))))))) rfl ⟨by rw [hz.out.1, hz.out.2]; rfl, (((((((((hbw.setCell (Nat.le_refl _) _).setCell (Nat.le_refl _) _).setCell (Nat.le_refl _) _).setCell (Nat.le_refl _) _).setCell (Nat.le_refl _) _).setCell (Nat.le_refl _) _).setCell (Nat.le_refl _) _).setCell (Nat.le_refl _) _).setCell (Nat.le_refl _) _)⟩
                · have hs1 : (tt.toList != s.toList) = true := by
                    rw [← HTT.out, ht1.1, list_of, list_of]
                    simpa using ht
                  have hs3 : (tt.toList == s.toList) = false := by simpa using hs1
                  have hz := Lib.hid (ro_none (HO.out.trans (if_neg fun h => ht h.2.2)))
                  clear he hok ht ht1
                  go_wp2_with fail
                  exact bodyPost_ret (results_t (t1 := 2) (t3 := 3) (g := w.heap.size) (r := default) Tryz.results11 rfl rfl (qset8 (qset7 (qset6 (qset5 (qset4 (qset3 (qset2 (qset1 (qset0 HKZ.out)))))))))) rfl ⟨by rw [hz.out.1, hz.out.2]; rfl, (((((((((hbw.setCell (Nat.le_refl _) _).setCell (Nat.le_refl _) _).setCell (Nat.le_refl _) _).setCell (Nat.le_refl _) _).setCell (Nat.le_refl _) _).setCell (Nat.le_refl _) _).setCell (Nat.le_refl _) _).setCell (Nat.le_refl _) _).setCell (Nat.le_refl _) _)⟩
              | false =>
                have ht1 := rt_told_no hok
                have hs2 : (C.toldE != 0) = true := by rw [ht1.2]; rfl
                have hz := Lib.hid (ro_none (HO.out.trans (if_neg fun h => by rw [hok] at h; exact absurd h.2.1 (by decide))))
                clear he hok ht1
                go_wp2_with fail
                exact bodyPost_ret (results_t (t1 := 2) (t3 := 3) (g := w.heap.size) (r := default) Tryz.results11 rfl rfl (qset8 (qset7 (qset6 (qset5 (qset4 (qset3 (qset2 (qset1 (qset0 HKZ.out)))))))))) rfl ⟨by rw [hz.out.1, hz.out.2]; rfl, (((((((((hbw.setCell (Nat.le_refl _) _).setCell (Nat.le_refl _) _).setCell (Nat.le_refl _) _).setCell (Nat.le_refl _) _).setCell (Nat.le_refl _) _).setCell (Nat.le_refl _) _).setCell (Nat.le_refl _) _).setCell (Nat.le_refl _) _).setCell (Nat.le_refl _) _)⟩
            · have he1 : (ppE x0.data.toList != 0) = true := by simpa using he
              have hz := Lib.hid (ro_none (HO.out.trans (if_neg fun h => he h.1)))
              clear he
              go_wp2_with fail
              exact bodyPost_ret (results_t (t1 := 2) (t3 := 3) (g := w.heap.size) (r := default) Tryz.results11 rfl rfl (qset8 (qset7 (qset6 (qset5 (qset4 (qset3 (qset2 (qset1 (qset0 HKZ.out)))))))))) rfl ⟨by rw [hz.out.1, hz.out.2]; rfl, (((((((((hbw.setCell (Nat.le_refl _) _).setCell (Nat.le_refl _) _).setCell (Nat.le_refl _) _).setCell (Nat.le_refl _) _).setCell (Nat.le_refl _) _).setCell (Nat.le_refl _) _).setCell (Nat.le_refl _) _).setCell (Nat.le_refl _) _).setCell (Nat.le_refl _) _)⟩
  · have hd : (L.length : Int) < 5 := by omega
    have hz := Lib.hid (ro_none (roO_len (l := s.data.toList) (by rw [hP.out, List.length_map]; omega)))
    clear hrd hP hsz
    obtain ⟨c0, c1, c2, c3, c4, c5, c6, c7, c8⟩ := rt_blk (r := default) hk1
    have z0 := frozen_row hk1 0
    have z1 := frozen_row hk1 1
    have z2 := frozen_row hk1 2
    have z3 := frozen_row hk1 3
    have z4 := frozen_row hk1 4
    have z5 := frozen_row hk1 5
    have z6 := frozen_row hk1 6
    have z7 := frozen_row hk1 7
    have z8 := frozen_row hk1 8
    have HK1 := Lib.hid hk1
    clear hk1
    go_wp2
    exact bodyPost_ret (results_t (t1 := 2) (t3 := 3) (g := w.heap.size) (r := default) Tryz.results11 rfl rfl (qset8 (qset7 (qset6 (qset5 (qset4 (qset3 (qset2 (qset1 (qset0 HK1.out)))))))))) rfl ⟨by rw [hz.out.1, hz.out.2]; rfl, (((((((((hb1.setCell (Nat.le_refl _) _).setCell (Nat.le_refl _) _).setCell (Nat.le_refl _) _).setCell (Nat.le_refl _) _).setCell (Nat.le_refl _) _).setCell (Nat.le_refl _) _).setCell (Nat.le_refl _) _).setCell (Nat.le_refl _) _).setCell (Nat.le_refl _) _)⟩
end Go.Proofs.YtpmoepipoafegaaGreatDoor

/-
  Walks over the document's one, first, numbers at like answers.
-/
namespace Go.Proofs.YtpmoepipoafegaaGreatDoor
open Go Go.RowKit Go.Sort

theorem one_no (w : World) : Calls Tryz.prog 44 #[.bool false, .bool false] w fun e w' => e = .returned (.int .i64 0) ∧ Below w.heap.size w w' := by
  go_enter Tryz.func44, Tryz.ntmps44
  go_wp2
  go_ret
  exact ⟨rfl, Below.refl _ _⟩
theorem firstZ (n : Nat) (v : Value) (w : World) (h : Rd w w.heap.size 1 v n (List.replicate n (.int .i64 0))) (hn : n ≤ 1000) :
    Calls Tryz.prog 42 #[v] w fun e w' => e = .returned (.int .i64 0) ∧ Below w.heap.size w w' := by
  obtain ⟨A, c, rfl, hc⟩ := h.form
  have HU := Lib.hid h
  clear h
  go_enter Tryz.func42, Tryz.ntmps42
  go_wp2
  go_loop [3] (fun i => ∃ k : Nat, i = .int .i64 k ∧ k ≤ n) (fun i => n - (intOf i).toNat)
  case atStart => exact ⟨0, rfl, by omega⟩
  case round =>
    obtain ⟨k, rfl, hk⟩ := hrel
    by_cases hlt : k < n
    · have hI : (k : Int) < (n : Int) := by omega
      obtain ⟨b, off, d, hv, _, _, hcell⟩ := HU.out.posAt (by omega)
      injection hv with hv1 _ hv3
      subst hv1 hv3
      have c0 : w.cell? ⟨b, off + k, none⟩ = some (.int .i64 0) := by
        have := hcell k 0 (.int .i64 0) (by simp [hlt])
        rwa [Nat.mul_one, Nat.add_zero] at this
      clear hcell
      go_wp2
      exact ⟨⟨k + 1, by go_num, by omega⟩, by simp only [intOf]; omega⟩
    · have hI : ¬ (k : Int) < (n : Int) := by omega
      go_wp2
      go_ret
      exact ⟨rfl, Below.refl _ _⟩
theorem take_succ_map {l : List Int} {k : Nat} {x : Int} (hx : l[k]? = some x) : l.take (k + 1) = l.take k ++ [x] := by
  rw [List.take_add_one, hx]; rfl
set_option maxHeartbeats 4000000 in
theorem words_any (l : List Int) (v : Value) (w : World) (h : Rd w w.heap.size 1 v l.length (l.map (Value.int .u32))) (hlen : l.length ≤ 1000000) :
    Calls Tryz.prog 46 #[v] w fun e w' => ∃ u : Value, e = .returned u ∧ w'.ownsRow w.heap.size 22 1 u l.length (l.map (Value.int .u32)) ∧ Below w.heap.size w w' := by
  obtain ⟨A, c, rfl, hc⟩ := h.form
  obtain ⟨i0, hi, hz0, hz1, hz2⟩ := info_parts Tryz.infoU32
  have HU := Lib.hid h
  clear h
  go_enter Tryz.func46, Tryz.ntmps46
  go_wp2
  go_loopw [3, 4] (fun v i wr => ∃ k : Nat, i = .int .i64 k ∧ wr.ownsRow w.heap.size 22 1 v (l.take k).length ((l.take k).map (Value.int .u32)) ∧ k ≤ l.length ∧ Below w.heap.size w wr) (fun _ i _ => l.length - (intOf i).toNat)
  case atStart => exact ⟨0, rfl, World.ownsRow_nil _ _ _ _, by omega, Below.refl _ _⟩
  case round =>
    obtain ⟨k, rfl, hown, hk, hb⟩ := hrel
    by_cases hlt : k < l.length
    · have hI : (k : Int) < (l.length : Int) := by omega
      obtain ⟨x, hx⟩ : ∃ x, l[k]? = some x := ⟨_, List.getElem?_eq_getElem hlt⟩
      obtain ⟨b, off, d, hv, _, _, hcell⟩ := (HU.out.below hb).posAt (by omega)
      injection hv with hv1 _ hv3
      subst hv1 hv3
      have c0 : wr.cell? ⟨b, off + k, none⟩ = some (.int .u32 x) := by
        have := hcell k 0 (.int .u32 x) (by simp [hx])
        rwa [Nat.mul_one, Nat.add_zero] at this
      have ht := Lib.hid (take_succ_map hx)
      have hlk : (l.take k).length = k := by simp; omega
      clear hcell hx
      go_wp2_with (at_builtin; refine wpList_push rfl _ _ 28 rfl 22 i0 _ 1 4 Tryz.underlying28 hi hz0 hz1 hz2 rfl (by decide) (by decide) [.int .u32 x] rfl rfl (by simp) hown rfl (one_u32 _) (by omega) hb.size hb (Nat.le_refl _) ?_; intro v2 w2 hown2 hb2)
      have hown3 : w2.ownsRow w.heap.size 22 1 v2 (l.take (k + 1)).length ((l.take (k + 1)).map (Value.int .u32)) := by
        rw [ht.out, List.length_append, List.map_append]; exact hown2
      clear hown2 hown
      go_wp2
      exact ⟨⟨k + 1, by go_num, hown3, by omega, hb2⟩, by simp only [intOf]; omega⟩
    · obtain rfl : k = l.length := by omega
      have hI : ¬ (l.length : Int) < (l.length : Int) := by omega
      rw [List.take_length] at hown
      go_wp2
      go_ret
      exact ⟨_, rfl, hown, hb⟩
theorem numbers_same (l : List Int) (u v : Value) (w : World) (hu : Rd w w.heap.size 1 u l.length (l.map (Value.int .u32))) (hv : Rd w w.heap.size 1 v l.length (l.map (Value.int .u32))) (hlen : l.length ≤ 9223372036854775807) :
    Calls Tryz.prog 45 #[u, v] w fun e w' => e = .returned (.int .i64 0) ∧ Below w.heap.size w w' := by
  obtain ⟨A, c, rfl, hc⟩ := hu.form
  obtain ⟨A', c', rfl, hc'⟩ := hv.form
  have HU := Lib.hid hu
  have HV := Lib.hid hv
  have hno := Lib.hid one_no
  clear hu hv
  go_enter Tryz.func45, Tryz.ntmps45
  go_wp2
  go_loopw [5] (fun i wr => ∃ k : Nat, i = .int .i64 k ∧ k ≤ l.length ∧ Hid (Below w.heap.size w wr)) (fun i _ => l.length - (intOf i).toNat)
  case atStart => exact ⟨0, rfl, by omega, Lib.hid (Below.refl _ _)⟩
  case round =>
    obtain ⟨k, rfl, hk, hbw⟩ := hrel
    by_cases hlt : k < l.length
    · have hI : (k : Int) < (l.length : Int) := by omega
      obtain ⟨x, hx⟩ : ∃ x, l[k]? = some x := ⟨_, List.getElem?_eq_getElem hlt⟩
      obtain ⟨b, off, d, hv, _, _, hcell⟩ := (HU.out.below hbw.out).posAt (by omega)
      injection hv with hv1 _ hv3
      subst hv1 hv3
      obtain ⟨b', off', d', hv', _, _, hcell'⟩ := (HV.out.below hbw.out).posAt (by omega)
      injection hv' with hv1' _ hv3'
      subst hv1' hv3'
      have c0 : wr.cell? ⟨b, off + k, none⟩ = some (.int .u32 x) := by
        have := hcell k 0 (.int .u32 x) (by simp [hx])
        rwa [Nat.mul_one, Nat.add_zero] at this
      have c1 : wr.cell? ⟨b', off' + k, none⟩ = some (.int .u32 x) := by
        have := hcell' k 0 (.int .u32 x) (by simp [hx])
        rwa [Nat.mul_one, Nat.add_zero] at this
      have hxx : (x != x) = false := bne_self_eq_false x
      clear hcell hcell' hx
      go_upto_region 4 with fail
      have F0 := cell_regrown c0
      have F1 := cell_regrown c1
      refine wp_region_quiet_below (by kernel_rfl) (by kernel_rfl) ?_
      repeat (first | go_big_quiet_step (fail) | quiet_step (fail))
      refine wpQuiet_nil ?_
      intro _ hw'
      obtain ⟨⟨nq, osq⟩, hw''⟩ := hw'
      subst hw''
      have hbr := below_regrown wr nq osq
      go_wp2
      exact ⟨⟨k + 1, by go_num, by omega, Lib.hid (below_call hbw.out hbr)⟩, by simp only [intOf]; omega⟩
    · obtain rfl : k = l.length := by omega
      have hI : ¬ (l.length : Int) < (l.length : Int) := by omega
      go_wp2_with fail
      refine (hno.out _).mono ?_
      rintro e wz ⟨rfl, hb⟩
      have hbz := below_call hbw.out hb
      go_wp2
      go_ret
      exact ⟨rfl, hbz⟩
end Go.Proofs.YtpmoepipoafegaaGreatDoor

/-
  append([]T{}, x...) of one-cell elements: a new list that is alike.
-/
namespace Go.Proofs.YtpmoepipoafegaaGreatDoor
open Go Go.RowKit Go.Sort

theorem made_atR (W : World) (e : TypeId) (size : Nat) : (W.alloc (.cells #[] e)).ownsRow W.heap.size e size (.slice (some ⟨W.heap.size, 0, none⟩) 0 0) 0 [] :=
  World.ownsRow_made W #[] 0 (Nat.le_refl _) (Nat.zero_le _) (by simp)
theorem u32_one {l : List Int} : ∀ u ∈ l.map (Value.int .u32), u.oneCell' = true := by
  intro u hu
  obtain ⟨x, _, rfl⟩ := List.mem_map.1 hu
  rfl
/-- append of a list to a new empty one. -/
theorem wpList_twin {P : Program} {ops : Array Oper} {rest : List Oper} {o : Oper} {a : Act} {Q : Exit → Act → World → Prop} (hgd : o.guard = none) (s x : Operand) (t : TypeId)
    (ho : o.op = .call { callee := .builtin .append, args := #[s, x], argTypes := #[t, t] })
    (e : TypeId) (i : TypeInfo) (z : Value) (ht : P.underlying t = some (.slice e)) (hi : P.info? e = some i) (hz : i.zero = some z)
    (hsize : i.size = 1) (hby : i.bytes = 4) (hzs : z.cells.size = 1)
    {w0 : World} {g0 : Nat} (hs : a.eval s = .slice (some ⟨g0, 0, none⟩) 0 0) (hg0 : g0 = w0.heap.size) (l : List Int) {A : Option Addr} {c : Nat} (hx : a.eval x = .slice A l.length c) (hnil : A = none → c = 0)
    (hrd : Rd w0 w0.heap.size 1 (.slice A l.length c) l.length (l.map (Value.int .u32))) (hlen : l.length ≤ 1000000)
    (h : ∀ v' w', w'.ownsRow w0.heap.size e 1 v' l.length (l.map (Value.int .u32)) → Below w0.heap.size w0 w' → wpList P ops Q rest (a.put o.dst v') w') : wpList P ops Q (o :: rest) a (w0.alloc (.cells #[] e)) := by
  subst hg0
  have hb1 := below1 w0 (.cells #[] e)
  cases A with
  | none =>
    obtain rfl := hnil rfl
    have hl0 : l = [] := by
      cases l with
      | nil => rfl
      | cons y r => obtain ⟨b, off, c', hv, _⟩ := hrd.pos (by simp); cases hv
    subst hl0
    exact wpList_append_own_none hgd s x t ho w0.heap.size e i 1 ht hi _ 0 [] hs (made_atR w0 e 1) hx (h _ _ (made_atR w0 e 1) hb1)
  | some ad =>
    refine wpList_append_own _ hgd s x t ho w0.heap.size e i z 1 4 ht hi hz hsize hby hzs (by decide) _ 0 [] hs (made_atR w0 e 1) ad l.length c (l.map (Value.int .u32)) hx (by simp) ?_ u32_one (by unfold maxLen; omega) (by omega) (by simp) ?_
    · intro j u hu
      have hj : j < l.length := by
        have := (List.getElem?_eq_some_iff.1 hu).1
        simpa using this
      obtain ⟨b, off, c', hv, _, hb, hcell⟩ := hrd.pos (by omega)
      injection hv with hv1 _ hv3
      injection hv1 with hv1
      subst hv1
      exact cell_kept hb1 (by
        have hc := hcell j u hu
        by_cases hj0 : j = 0
        · subst hj0; simpa [Addr.add] using hc
        · simpa [Addr.add, hj0] using hc)
    · intro v' w' h2 h3 _
      rw [Nat.zero_add, List.nil_append] at h2
      exact h v' w' h2 (hb1.grown h3 (by simp) (fun k hk => by simp [Value.ownBlock] at hk; omega))
/-- A store at or above the bound turns no list below it. -/
theorem Rd.setUp {w : World} {B k n : Nat} {v : Value} {xs : List Value} (h : Rd w B k v n xs) {p : Addr} (hp : B ≤ p.block) (u : Value) : Rd (w.setCell p u) B k v n xs := by
  obtain ⟨A, c, hv, hc, hl, hx⟩ := h
  refine ⟨A, c, hv, hc, hl, fun hn => ?_⟩
  obtain ⟨b, off, hA, hb, hcell⟩ := hx hn
  refine ⟨b, off, hA, hb, fun j u' hu => ?_⟩
  have hbg : b ≠ p.block := by omega
  exact (World.cell?_of_block (w := w) (Below.heap_setCell w _ u b hbg)).trans (hcell j u' hu)
end Go.Proofs.YtpmoepipoafegaaGreatDoor

/-
  The document's TwinAdvert (written by wip/gen/genrd8.py).
-/
namespace Go.Proofs.YtpmoepipoafegaaGreatDoor
open Go Go.RowKit Go.Sort

theorem results_1a {fn : Func} {tmps : Array Value} {w : World} {g : Nat} {r : AvV} {vp vo vl : Value} {t1 : Nat} (hf : fn.results = #[.cell t1 31]) (h1 : tmps.getD t1 undef = .pointer (some ⟨g, 0, none⟩))
    (k1 : w.heap[g]? = some (avObj r vp vo vl)) :
    (results fn tmps).run Tryz.prog w = .ok (.agg #[.int .u32 r.a, .int .i64 r.m, .int .u32 r.ho, .int .i64 r.pf, .int .i64 r.me, vp, vo, .int .u32 r.pe, .int .u32 r.id, .bool r.ex, .int .u32 r.og, vl, .int .i64 r.ss]) w := by
  obtain ⟨c0, c1, c2, c3, c4, c5, c6, c7, c8, c9, c10, c11, c12⟩ := av_blk k1
  have h1' : tmps[t1]?.getD undef = .pointer (some ⟨g, 0, none⟩) := by simpa using h1
  simp [results, hf, h1', go_sem, c0, c1, c2, c3, c4, c5, c6, c7, c8, c9, c10, c11, c12]
/-- A list of numbers that lies outside two blocks. -/
def TwL (W : World) (l : List Int) (v : Value) (g h : Nat) : Prop := Rd W W.heap.size 1 v l.length (l.map (Value.int .u32)) ∧ FarV g v ∧ FarV h v
theorem TwL.below {W W' : World} {l : List Int} {v : Value} {g h : Nat} (H : TwL W l v g h) (hb : Below W.heap.size W W') : TwL W' l v g h := ⟨(H.1.below hb).mono hb.size, H.2⟩
theorem size1c {W : World} {p : Addr} {u : Value} : (W.setCell p u).heap.size = W.heap.size := by simp [World.setCell]
theorem TwL.setA {W : World} {l : List Int} {v : Value} {g h : Nat} (H : TwL W l v g h) (i : Nat) (u : Value) : TwL (W.setCell ⟨g, i, none⟩ u) l v g h := ⟨by rw [size1c]; exact H.1.setFar H.2.1, H.2⟩
theorem TwL.of_own {W V : World} {l : List Int} {v : Value} {e : TypeId} {g h : Nat} (hown : V.ownsRow W.heap.size e 1 v l.length (l.map (Value.int .u32))) (hg : g < W.heap.size) (hh : h < W.heap.size) : TwL V l v g h := ⟨Rd.of_own hown, far_own hown hg, far_own hown hh⟩
theorem TwL.rd13 {W : World} {l : List Int} {v : Value} {g h : Nat} (H : TwL W l v g h) {u0 u1 u2 u3 u4 u5 u6 u7 u8 u9 u10 u11 u12 : Value} : Rd (((((((((((((W.setCell ⟨h, 0, none⟩ u0).setCell ⟨h, 1, none⟩ u1).setCell ⟨h, 2, none⟩ u2).setCell ⟨h, 3, none⟩ u3).setCell ⟨h, 4, none⟩ u4).setCell ⟨h, 5, none⟩ u5).setCell ⟨h, 6, none⟩ u6).setCell ⟨h, 7, none⟩ u7).setCell ⟨h, 8, none⟩ u8).setCell ⟨h, 9, none⟩ u9).setCell ⟨h, 10, none⟩ u10).setCell ⟨h, 11, none⟩ u11).setCell ⟨h, 12, none⟩ u12) (((((((((((((W.setCell ⟨h, 0, none⟩ u0).setCell ⟨h, 1, none⟩ u1).setCell ⟨h, 2, none⟩ u2).setCell ⟨h, 3, none⟩ u3).setCell ⟨h, 4, none⟩ u4).setCell ⟨h, 5, none⟩ u5).setCell ⟨h, 6, none⟩ u6).setCell ⟨h, 7, none⟩ u7).setCell ⟨h, 8, none⟩ u8).setCell ⟨h, 9, none⟩ u9).setCell ⟨h, 10, none⟩ u10).setCell ⟨h, 11, none⟩ u11).setCell ⟨h, 12, none⟩ u12).heap.size 1 v l.length (l.map (Value.int .u32)) := by
  rw [size13]; exact Go.Proofs.YtpmoepipoafegaaGreatDoor.rd13 H.1 H.2.2
theorem blk_set {W : World} {g h i : Nat} {u : Value} {o : Obj} (hk : W.heap[h]? = some o) (hne : h ≠ g) : (W.setCell ⟨g, i, none⟩ u).heap[h]? = some o := (Below.heap_setCell W ⟨g, i, none⟩ u h hne).trans hk
set_option maxRecDepth 100000 in
set_option maxHeartbeats 8000000 in
theorem refTwin_any (r : AvV) (A1 A2 A3 : Option Addr) (C1 C2 C3 : Nat) (w : World) (hp : Rd w w.heap.size 1 (.slice A1 r.pa.length C1) r.pa.length (r.pa.map (Value.int .u32))) (ho : Rd w w.heap.size 1 (.slice A2 r.co.length C2) r.co.length (r.co.map (Value.int .u32))) (hl : Rd w w.heap.size 1 (.slice A3 r.cl.length C3) r.cl.length (r.cl.map (Value.int .u32))) (n1 : A1 = none → C1 = 0) (n2 : A2 = none → C2 = 0) (n3 : A3 = none → C3 = 0) (hlen : r.pa.length + r.co.length + r.cl.length ≤ 1000) :
    Calls Tryz.prog 5 #[.agg #[.int .u32 r.a, .int .i64 r.m, .int .u32 r.ho, .int .i64 r.pf, .int .i64 r.me, (.slice A1 r.pa.length C1), (.slice A2 r.co.length C2), .int .u32 r.pe, .int .u32 r.id, .bool r.ex, .int .u32 r.og, (.slice A3 r.cl.length C3), .int .i64 r.ss]] w fun e w' => ∃ up uo ul, e = .returned (.agg #[.int .u32 r.a, .int .i64 r.m, .int .u32 r.ho, .int .i64 r.pf, .int .i64 r.me, up, uo, .int .u32 r.pe, .int .u32 r.id, .bool r.ex, .int .u32 r.og, ul, .int .i64 r.ss]) ∧ Rd w' w'.heap.size 1 up r.pa.length (r.pa.map (Value.int .u32)) ∧ Rd w' w'.heap.size 1 uo r.co.length (r.co.map (Value.int .u32)) ∧ Rd w' w'.heap.size 1 ul r.cl.length (r.cl.map (Value.int .u32)) ∧ Below w.heap.size w w' := by
  obtain ⟨i0, hi, hz0, hz1, hz2⟩ := info_parts Tryz.infoU32
  obtain ⟨j0, hj, hy0, hy1, hy2⟩ := info_parts Tryz.infoAddr
  obtain ⟨ka, kr⟩ := blk2 w (avObj r (.slice A1 r.pa.length C1) (.slice A2 r.co.length C2) (.slice A3 r.cl.length C3)) (.cells #[.int .u32 0, .int .i64 0, .int .u32 0, .int .i64 0, .int .i64 0, .slice none 0 0, .slice none 0 0, .int .u32 0, .int .u32 0, .bool false, .int .u32 0, .slice none 0 0, .int .i64 0] 31)
  have hb0 := below2 w (avObj r (.slice A1 r.pa.length C1) (.slice A2 r.co.length C2) (.slice A3 r.cl.length C3)) (.cells #[.int .u32 0, .int .i64 0, .int .u32 0, .int .i64 0, .int .i64 0, .slice none 0 0, .slice none 0 0, .int .u32 0, .int .u32 0, .bool false, .int .u32 0, .slice none 0 0, .int .i64 0] 31)
  have hW : w.alloc (.cells #[.int .u32 r.a, .int .i64 r.m, .int .u32 r.ho, .int .i64 r.pf, .int .i64 r.me, (.slice A1 r.pa.length C1), (.slice A2 r.co.length C2), .int .u32 r.pe, .int .u32 r.id, .bool r.ex, .int .u32 r.og, (.slice A3 r.cl.length C3), .int .i64 r.ss] 31) = w.alloc (avObj r (.slice A1 r.pa.length C1) (.slice A2 r.co.length C2) (.slice A3 r.cl.length C3)) := rfl
  have HP := Lib.hid (And.intro hp (And.intro ho hl))
  have lp : r.pa.length ≤ 1000000 := by omega
  have lo : r.co.length ≤ 1000000 := by omega
  have ll : r.cl.length ≤ 1000000 := by omega
  clear hp ho hl
  go_enter Tryz.func5, Tryz.ntmps5
  go_upto_region 1 with fail
  try rw [hW]
  generalize (w.alloc (avObj r (.slice A1 r.pa.length C1) (.slice A2 r.co.length C2) (.slice A3 r.cl.length C3))).alloc (.cells #[.int .u32 0, .int .i64 0, .int .u32 0, .int .i64 0, .int .i64 0, .slice none 0 0, .slice none 0 0, .int .u32 0, .int .u32 0, .bool false, .int .u32 0, .slice none 0 0, .int .i64 0] 31) = W0 at *
  replace kr : W0.heap[w.heap.size + 1]? = some (avObj av0 (.slice none 0 0) (.slice none 0 0) (.slice none 0 0)) := kr
  clear hW
  have gs : w.heap.size < w.heap.size + 1 := Nat.lt_succ_self _
  obtain ⟨c0, c1, c2, c3, c4, c5, c6, c7, c8, c9, c10, c11, c12⟩ := av_blk ka
  have f0 := cell_kept (below1 W0 (.cells #[] 22)) c5
  have ga : w.heap.size < W0.heap.size := lt_of_block ka
  have gr : w.heap.size + 1 < W0.heap.size := lt_of_block kr
  clear c0 c1 c2 c3 c4 c5 c6 c7 c8 c9 c10 c11 c12
  go_upto_region 2 with (at_builtin; refine wpList_twin rfl _ _ 28 rfl 22 i0 _ Tryz.underlying28 hi hz0 hz1 hz2 rfl (w0 := W0) (g0 := W0.heap.size) rfl rfl r.pa rfl n1 ((HP.out.1.below hb0).mono hb0.size) (by omega) ?_; intro u0 v0 hown hb; obtain ⟨B0, D0, hu0, _⟩ := owns_form hown; subst hu0; have q0 := TwL.of_own (l := r.pa) hown ga gr; have ka' := blk_below hb ka; have kr' := blk_below hb kr; have hb' := below_call hb0 hb; clear f0 ga gr hown hb ka kr; obtain ⟨c0, c1, c2, c3, c4, c5, c6, c7, c8, c9, c10, c11, c12⟩ := av_blk ka'; have z := frozen_row ka' 5)
  have ka1 : (v0.setCell ⟨w.heap.size, 5, none⟩ (.slice B0 r.pa.length D0)).heap[w.heap.size]? = some (avObj r (.slice B0 r.pa.length D0) (.slice A2 r.co.length C2) (.slice A3 r.cl.length C3)) := aset5 ka'
  have kr1 := blk_set (g := w.heap.size) (i := 5) (u := (.slice B0 r.pa.length D0)) kr' (Nat.ne_of_gt gs)
  have hb1 := hb'.setCell (p := ⟨w.heap.size, 5, none⟩) (Nat.le_refl _) (.slice B0 r.pa.length D0)
  replace q0 := q0.setA 5 (.slice B0 r.pa.length D0)
  clear ka' kr' hb' z c0 c1 c2 c3 c4 c5 c6 c7 c8 c9 c10 c11 c12
  generalize v0.setCell ⟨w.heap.size, 5, none⟩ (.slice B0 r.pa.length D0) = W1 at *
  obtain ⟨c0, c1, c2, c3, c4, c5, c6, c7, c8, c9, c10, c11, c12⟩ := av_blk ka1
  have f1 := cell_kept (below1 W1 (.cells #[] 22)) c6
  have ga : w.heap.size < W1.heap.size := lt_of_block ka1
  have gr : w.heap.size + 1 < W1.heap.size := lt_of_block kr1
  clear c0 c1 c2 c3 c4 c5 c6 c7 c8 c9 c10 c11 c12
  go_upto_region 3 with (at_builtin; refine wpList_twin rfl _ _ 28 rfl 22 i0 _ Tryz.underlying28 hi hz0 hz1 hz2 rfl (w0 := W1) (g0 := W1.heap.size) rfl rfl r.co rfl n2 ((HP.out.2.1.below hb1).mono hb1.size) (by omega) ?_; intro u1 v1 hown hb; obtain ⟨B1, D1, hu1, _⟩ := owns_form hown; subst hu1; have q1 := TwL.of_own (l := r.co) hown ga gr; replace q0 := q0.below hb; have ka' := blk_below hb ka1; have kr' := blk_below hb kr1; have hb' := below_call hb1 hb; clear f1 ga gr hown hb ka1 kr1; obtain ⟨c0, c1, c2, c3, c4, c5, c6, c7, c8, c9, c10, c11, c12⟩ := av_blk ka'; have z := frozen_row ka' 6)
  have ka2 : (v1.setCell ⟨w.heap.size, 6, none⟩ (.slice B1 r.co.length D1)).heap[w.heap.size]? = some (avObj r (.slice B0 r.pa.length D0) (.slice B1 r.co.length D1) (.slice A3 r.cl.length C3)) := aset6 ka'
  have kr2 := blk_set (g := w.heap.size) (i := 6) (u := (.slice B1 r.co.length D1)) kr' (Nat.ne_of_gt gs)
  have hb2 := hb'.setCell (p := ⟨w.heap.size, 6, none⟩) (Nat.le_refl _) (.slice B1 r.co.length D1)
  replace q0 := q0.setA 6 (.slice B1 r.co.length D1)
  replace q1 := q1.setA 6 (.slice B1 r.co.length D1)
  clear ka' kr' hb' z c0 c1 c2 c3 c4 c5 c6 c7 c8 c9 c10 c11 c12
  generalize v1.setCell ⟨w.heap.size, 6, none⟩ (.slice B1 r.co.length D1) = W2 at *
  obtain ⟨c0, c1, c2, c3, c4, c5, c6, c7, c8, c9, c10, c11, c12⟩ := av_blk ka2
  have f2 := cell_kept (below1 W2 (.cells #[] 23)) c11
  have ga : w.heap.size < W2.heap.size := lt_of_block ka2
  have gr : w.heap.size + 1 < W2.heap.size := lt_of_block kr2
  clear c0 c1 c2 c3 c4 c5 c6 c7 c8 c9 c10 c11 c12
  go_upto_region 4 with (at_builtin; refine wpList_twin rfl _ _ 29 rfl 23 j0 _ Tryz.underlying29 hj hy0 hy1 hy2 rfl (w0 := W2) (g0 := W2.heap.size) rfl rfl r.cl rfl n3 ((HP.out.2.2.below hb2).mono hb2.size) (by omega) ?_; intro u2 v2 hown hb; obtain ⟨B2, D2, hu2, _⟩ := owns_form hown; subst hu2; have q2 := TwL.of_own (l := r.cl) hown ga gr; replace q0 := q0.below hb; replace q1 := q1.below hb; have ka' := blk_below hb ka2; have kr' := blk_below hb kr2; have hb' := below_call hb2 hb; clear f2 ga gr hown hb ka2 kr2; obtain ⟨c0, c1, c2, c3, c4, c5, c6, c7, c8, c9, c10, c11, c12⟩ := av_blk ka'; have z := frozen_row ka' 11)
  have ka3 : (v2.setCell ⟨w.heap.size, 11, none⟩ (.slice B2 r.cl.length D2)).heap[w.heap.size]? = some (avObj r (.slice B0 r.pa.length D0) (.slice B1 r.co.length D1) (.slice B2 r.cl.length D2)) := aset11 ka'
  have kr3 := blk_set (g := w.heap.size) (i := 11) (u := (.slice B2 r.cl.length D2)) kr' (Nat.ne_of_gt gs)
  have hb3 := hb'.setCell (p := ⟨w.heap.size, 11, none⟩) (Nat.le_refl _) (.slice B2 r.cl.length D2)
  replace q0 := q0.setA 11 (.slice B2 r.cl.length D2)
  replace q1 := q1.setA 11 (.slice B2 r.cl.length D2)
  replace q2 := q2.setA 11 (.slice B2 r.cl.length D2)
  clear ka' kr' hb' z c0 c1 c2 c3 c4 c5 c6 c7 c8 c9 c10 c11 c12
  generalize v2.setCell ⟨w.heap.size, 11, none⟩ (.slice B2 r.cl.length D2) = W3 at *
  obtain ⟨c0, c1, c2, c3, c4, c5, c6, c7, c8, c9, c10, c11, c12⟩ := av_blk ka3
  obtain ⟨d0, d1, d2, d3, d4, d5, d6, d7, d8, d9, d10, d11, d12⟩ := av_blk kr3
  have z0 := frozen_row kr3 0
  have z1 := frozen_row kr3 1
  have z2 := frozen_row kr3 2
  have z3 := frozen_row kr3 3
  have z4 := frozen_row kr3 4
  have z5 := frozen_row kr3 5
  have z6 := frozen_row kr3 6
  have z7 := frozen_row kr3 7
  have z8 := frozen_row kr3 8
  have z9 := frozen_row kr3 9
  have z10 := frozen_row kr3 10
  have z11 := frozen_row kr3 11
  have z12 := frozen_row kr3 12
  go_wp2_with fail
  exact bodyPost_ret (results_1a (t1 := 2) (g := w.heap.size + 1) (r := r) (vp := (.slice B0 r.pa.length D0)) (vo := (.slice B1 r.co.length D1)) (vl := (.slice B2 r.cl.length D2)) Tryz.results5 rfl (aset12 (aset11 (aset10 (aset9 (aset8 (aset7 (aset6 (aset5 (aset4 (aset3 (aset2 (aset1 (aset0 kr3)))))))))))))) rfl ⟨_, _, _, rfl, q0.rd13, q1.rd13, q2.rd13, (((((((((((((hb3.setCell (Nat.le_succ _) _).setCell (Nat.le_succ _) _).setCell (Nat.le_succ _) _).setCell (Nat.le_succ _) _).setCell (Nat.le_succ _) _).setCell (Nat.le_succ _) _).setCell (Nat.le_succ _) _).setCell (Nat.le_succ _) _).setCell (Nat.le_succ _) _).setCell (Nat.le_succ _) _).setCell (Nat.le_succ _) _).setCell (Nat.le_succ _) _).setCell (Nat.le_succ _) _)⟩
end Go.Proofs.YtpmoepipoafegaaGreatDoor
