/-
  Walks over the document's addresses: ParsePrefix.
-/
import Derived.Test.YtdlhpiknifcehaaDoorAt4
import Derived.Test.YtdlhpiknifcehaaDoorAt2
import Derived.Test.YtdlhpiknifcehaaDoorAddr8
namespace Go.Proofs.YtdlhpiknifcehaaDoor
open Go Go.RowKit Go.Sort

theorem cut_none {l : List UInt8} (h : (47 : UInt8) ∉ l) : ppO l = none := by
  unfold ppO
  rw [if_neg]
  intro hc
  have e := cut_back (l := l) (c := 47) (x := (Lib.cut l [47]).1) (y := (Lib.cut l [47]).2.1) (by rw [← hc])
  exact h (by rw [e]; simp)
theorem ppO_at {l x y : List UInt8} (h : l = x ++ 47 :: y) (hx : (47 : UInt8) ∉ x) : ppO l = (parseB x).bind fun a => (readB y 32).map fun n => (a, n) := by
  unfold ppO
  rw [h, cut_hit1 _ hx]
  rfl
theorem split_at {l : List UInt8} {k : Nat} {c : UInt8} (h : l[k]? = some c) : l = l.take k ++ c :: l.drop (k + 1) := by
  have hkl := (List.getElem?_eq_some_iff.1 h).1
  have e : l.drop k = c :: l.drop (k + 1) := by
    rw [List.drop_eq_getElem_cons hkl]
    congr 1
    exact Option.some.inj ((List.getElem?_eq_getElem hkl).symm.trans h)
  rw [← e, List.take_append_drop]
theorem take_no {l : List UInt8} {k : Nat} {c x : UInt8} (h : c ∉ l.take k) (hk : l[k]? = some x) (hx : x ≠ c) : c ∉ l.take (k + 1) := by
  rw [List.take_add_one, hk]
  intro hm
  rcases List.mem_append.1 hm with hm | hm
  · exact h hm
  · simp at hm; exact hx hm.symm

set_option maxRecDepth 100000 in
set_option maxHeartbeats 4000000 in
theorem refParsePrefix_any (s : ByteArray) (w : World) (hlim : s.size < 4294967281) :
    Calls Tryd.prog 15 #[.string s] w fun e w' => e = .returned (.tuple #[.agg #[.int .u32 (ppA s.data.toList), .int .i64 (ppN s.data.toList)], .int .i64 (ppE s.data.toList)]) ∧ Below w.heap.size w w' := by
  have HS := Lib.hid (show s.size = s.data.toList.length from (Array.length_toList).symm)
  have t9 := Tryd.underlying9
  have HQ := Lib.hid (show ∀ (i : Nat) (h : i < s.size), Hid (s.data.toList[i]? = some (s[i]'h)) from fun i h => Lib.hid (by
    rw [Array.getElem?_toList]
    exact Array.getElem?_eq_getElem (xs := s.data) (i := i) h))
  have hk0 := heap_alloc_new w (.cells #[.int .u32 0, .int .i64 0] 25)
  have hb0 : Below w.heap.size w (w.alloc (.cells #[.int .u32 0, .int .i64 0] 25)) := (Below.refl _ _).alloc (Nat.le_refl _) _
  go_enter Tryd.func15, Tryd.ntmps15
  go_wp2
  generalize w.alloc (.cells #[.int .u32 0, .int .i64 0] 25) = W at *
  have hsz0 : w.heap.size < W.heap.size := lt_of_block hk0
  go_loop [4] (fun i => ∃ k : Nat, i = .int .i64 k ∧ k ≤ s.size ∧ Hid ((47 : UInt8) ∉ s.data.toList.take k)) (fun i => s.size - (intOf i).toNat)
  case atStart => exact ⟨0, rfl, by omega, Lib.hid (by simp)⟩
  case round =>
    obtain ⟨k, rfl, hk, hno⟩ := hrel
    obtain ⟨c0, c1, f0, f1⟩ := two_cells hk0
    have HK := Lib.hid hk0
    clear hk0
    by_cases hlt : k < s.size
    · have hI3 : (k : Int) < (s.size : Int) := by omega
      have hI4 : (0 : Int) ≤ k := by omega
      have hI5 : (k : Int) ≤ (s.size : Int) := by omega
      have hx := HQ.out k hlt
      obtain ⟨v, hv⟩ : ∃ v : Int, ((s[k]'hlt).toNat : Int) = v := ⟨_, rfl⟩
      by_cases h47 : s[k]'hlt = 47
      · have hv2 : (v == 47) = true := by rw [← hv, h47]; rfl
        have hO := Lib.hid (ppO_at (split_at (by rw [hx.out, h47])) hno.out)
        have e1 : (s.extract 0 k).data.toList = s.data.toList.take k := by rw [Lib.extract_data]; simp
        have e2 : (s.extract (k + 1) s.size).data.toList = s.data.toList.drop (k + 1) := by rw [Lib.extract_data, HS.out]; exact List.take_of_length_le (by simp)
        have hP := Lib.hid (show ∀ u : World, Calls Tryd.prog 13 #[.string (s.extract 0 k)] u fun e w' => e = .returned (.tuple #[.int .u32 (adV (parseB (s.data.toList.take k))), .int .i64 (adE (parseB (s.data.toList.take k)))]) ∧ Below u.heap.size u w' from fun u => by
          have h := refParse_any (s.extract 0 k) u (by have h1 : (s.extract 0 k).size = (s.extract 0 k).data.toList.length := (Array.length_toList).symm; rw [h1, e1, List.length_take]; omega)
          rw [e1] at h; exact h)
        have hR := Lib.hid (show ∀ u : World, Calls Tryd.prog 53 #[.string (s.extract (k + 1) s.size), .int .i64 32] u fun e w' => e = .returned (.int .i64 (rdV (s.data.toList.drop (k + 1)) 32)) ∧ u = w' from fun u => by
          have h := refRead_any (s.extract (k + 1) s.size) 32 (by omega) u
          rw [e2] at h; exact h)
        clear e1 e2 h47 hx hno
        generalize s.data.toList.take k = x at *
        generalize s.data.toList.drop (k + 1) = y at *
        go_wp2_with fail
        refine (hP.out _).mono ?_
        rintro e w1 ⟨rfl, hb1⟩
        have hbw := hb0.trans (hb1.mono hb0.size)
        have K1 := blk_below hb1 HK.out
        clear c0 c1 f0 f1 hb1
        obtain ⟨c0, c1, f0, f1⟩ := two_cells K1
        have hsz1 := lt_of_block K1
        have HK1 := Lib.hid K1
        clear K1
        go_wp2_with fail
        refine (hR.out _).mono ?_
        rintro e w2 ⟨rfl, rfl⟩
        cases ha : parseB x with
        | none =>
          have ea : adE (none : Option Nat) = 4 := rfl
          have hN := Lib.hid (pp_none (l := s.data.toList) (by rw [hO.out]; simp [ha]))
          clear hO
          go_wp2
          exact bodyPost_ret (results_p (t1 := 2) (t3 := 3) (g := w.heap.size) Tryd.results15 rfl rfl (set_1 (set_0 HK1.out))) rfl ⟨ret_p2 ⟨hN.out.2.1.symm, hN.out.2.2.symm, hN.out.1.symm⟩, (hbw.setCell (Nat.le_refl _) _).setCell (Nat.le_refl _) _⟩
        | some a =>
        have ea : adE (some a) = 0 := rfl
        have ev : adV (some a) = (a : Int) := rfl
        have hal := parseB_lt ha
        cases hb : readB y 32 with
        | none =>
          have hr := rdV_none hb
          have hN := Lib.hid (pp_none (l := s.data.toList) (by rw [hO.out]; simp [ha, hb]))
          clear hO
          go_wp2
          exact bodyPost_ret (results_p (t1 := 2) (t3 := 3) (g := w.heap.size) Tryd.results15 rfl rfl (set_1 (set_0 HK1.out))) rfl ⟨ret_p2 ⟨hN.out.2.1.symm, hN.out.2.2.symm, hN.out.1.symm⟩, (hbw.setCell (Nat.le_refl _) _).setCell (Nat.le_refl _) _⟩
        | some n =>
          have hr := rdV_some hb
          have hnl := readB_le hb
          have hO2 := Lib.hid (show ppO s.data.toList = some (a, n) by rw [hO.out, ha]; simp [hb])
          have hn0 : ¬ (n : Int) < 0 := by omega
          clear hO
          by_cases hc : chk a n = 0
          · have hd : (chk a n != 0) = false := by simp [hc]
            have hY := Lib.hid (pp_yes hO2.out hc)
            clear hc ha hb
            go_wp2_with fail
            refine (refCheck_any _ _ _ (by omega) (by omega)).mono ?_
            rintro e w4 ⟨rfl, hb4⟩
            have K3 := blk_below hb4 ((Below.heap_alloc w1 (.cells #[.int .u32 a, .int .i64 n] 25) _ hsz1).trans HK1.out)
            have K4 := blk_below hb4 (blk1 w1 (.cells #[.int .u32 a, .int .i64 n] 25))
            have hbw4 := below_call (hbw.alloc hbw.size _) hb4
            clear c0 c1 f0 f1 hb4
            obtain ⟨c0, c1, f0, f1⟩ := two_cells K3
            obtain ⟨c2, c3, f2, f3⟩ := two_cells K4
            have HK4 := Lib.hid K3
            have hne : w.heap.size ≠ w1.heap.size := by omega
            clear K3 K4
            go_wp2
            exact bodyPost_ret (results_p (t1 := 2) (t3 := 3) (g := w.heap.size) Tryd.results15 rfl rfl (set_1 (set_0 HK4.out))) rfl ⟨ret_p2 ⟨hY.out.2.1.symm, hY.out.2.2.symm, hY.out.1.symm⟩, (hbw4.setCell (Nat.le_refl _) _).setCell (Nat.le_refl _) _⟩
          · have hd : (chk a n != 0) = true := by simp [hc]
            have hY := Lib.hid (pp_no hO2.out hc)
            have h10 := Lib.hid (show chk (a : Int) (n : Int) = 10 from by
              rcases (show (a : Int) % sz n = 0 ∨ ¬ (a : Int) % sz n = 0 by omega) with h | h
              · exact absurd (chk_zero a n (by omega) (by omega) h) hc
              · exact chk_mask a n (by omega) (by omega) h)
            clear hc ha hb
            go_wp2_with fail
            refine (refCheck_any _ _ _ (by omega) (by omega)).mono ?_
            rintro e w4 ⟨rfl, hb4⟩
            have K3 := blk_below hb4 ((Below.heap_alloc w1 (.cells #[.int .u32 a, .int .i64 n] 25) _ hsz1).trans HK1.out)
            have K4 := blk_below hb4 (blk1 w1 (.cells #[.int .u32 a, .int .i64 n] 25))
            have hbw4 := below_call (hbw.alloc hbw.size _) hb4
            clear c0 c1 f0 f1 hb4
            obtain ⟨c0, c1, f0, f1⟩ := two_cells K3
            obtain ⟨c2, c3, f2, f3⟩ := two_cells K4
            have HK4 := Lib.hid K3
            have hne : w.heap.size ≠ w1.heap.size := by omega
            clear K3 K4
            go_wp2
            exact bodyPost_ret (results_p (t1 := 2) (t3 := 3) (g := w.heap.size) Tryd.results15 rfl rfl (set_1 (set_0 HK4.out))) rfl ⟨ret_p2 ⟨hY.out.2.1.symm, hY.out.2.2.symm, by rw [hY.out.1, h10.out]⟩, (hbw4.setCell (Nat.le_refl _) _).setCell (Nat.le_refl _) _⟩
      · have hv2 : (v == 47) = false := by
          simp
          intro h
          apply h47
          apply UInt8.toNat_inj.1
          have : (47 : UInt8).toNat = 47 := rfl
          omega
        have hno2 := Lib.hid (take_no hno.out hx.out h47)
        clear h47 hx hno
        go_wp2
        exact ⟨⟨k + 1, by go_num, by omega, hno2⟩, by simp only [intOf]; omega⟩
    · obtain rfl : k = s.size := by omega
      have hN := Lib.hid (pp_none (l := s.data.toList) (cut_none (by have h := hno.out; rw [HS.out, List.take_length] at h; exact h)))
      clear hno
      go_wp2
      exact bodyPost_ret (results_p (t1 := 2) (t3 := 3) (g := w.heap.size) Tryd.results15 rfl rfl (set_1 (set_0 HK.out))) rfl ⟨ret_p2 ⟨hN.out.2.1.symm, hN.out.2.2.symm, hN.out.1.symm⟩, (hb0.setCell (Nat.le_refl _) _).setCell (Nat.le_refl _) _⟩
end Go.Proofs.YtdlhpiknifcehaaDoor
