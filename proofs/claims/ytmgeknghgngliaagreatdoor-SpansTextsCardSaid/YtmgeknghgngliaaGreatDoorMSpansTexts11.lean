/-
  Joined texts: At5, Sx3, Sx4, Sx5.
-/
import Derived.Test.YtmgeknghgngliaaGreatDoorMSpansTexts10
import Derived.Test.YtmgeknghgngliaaGreatDoorMSpansTexts4
import Derived.Test.YtmgeknghgngliaaGreatDoorMSpansTexts9
/-
  Walks over the document's addresses: ParsePrefix.
-/
namespace Go.Proofs.YtmgeknghgngliaaGreatDoor
open Go Go.RowKit Go.Sort

theorem cut_none {l : List UInt8} (h : (47 : UInt8) ∉ l) : ppO l = none := by
  unfold ppO
  rw [if_neg]
  intro hc
  have e := cut_back (l := l) (c := 47) (x := (Lib.cut l [47]).1) (y := (Lib.cut l [47]).2.1) (by rw [← hc])
  exact h (by rw [e]; simp)
theorem ppO_at {l x y : List UInt8} (h : l = x ++ 47 :: y) (hx : (47 : UInt8) ∉ x) : ppO l = (parseB x).bind fun a => (readB y 32).map fun n => (a, n) := by
  unfold ppO
  rw [h, cut_hit1 _ hx]
  rfl
theorem split_at {l : List UInt8} {k : Nat} {c : UInt8} (h : l[k]? = some c) : l = l.take k ++ c :: l.drop (k + 1) := by
  have hkl := (List.getElem?_eq_some_iff.1 h).1
  have e : l.drop k = c :: l.drop (k + 1) := by
    rw [List.drop_eq_getElem_cons hkl]
    congr 1
    exact Option.some.inj ((List.getElem?_eq_getElem hkl).symm.trans h)
  rw [← e, List.take_append_drop]
theorem take_no {l : List UInt8} {k : Nat} {c x : UInt8} (h : c ∉ l.take k) (hk : l[k]? = some x) (hx : x ≠ c) : c ∉ l.take (k + 1) := by
  rw [List.take_add_one, hk]
  intro hm
  rcases List.mem_append.1 hm with hm | hm
  · exact h hm
  · simp at hm; exact hx hm.symm

set_option maxRecDepth 100000 in
set_option maxHeartbeats 4000000 in
theorem refParsePrefix_any (s : ByteArray) (w : World) (hlim : s.size < 4294967281) :
    Calls Tryz.prog 47 #[.string s] w fun e w' => e = .returned (.tuple #[.agg #[.int .u32 (ppA s.data.toList), .int .i64 (ppN s.data.toList)], .int .i64 (ppE s.data.toList)]) ∧ Below w.heap.size w w' := by
  have HS := Lib.hid (show s.size = s.data.toList.length from (Array.length_toList).symm)
  have t9 := Tryz.underlying9
  have HQ := Lib.hid (show ∀ (i : Nat) (h : i < s.size), Hid (s.data.toList[i]? = some (s[i]'h)) from fun i h => Lib.hid (by
    rw [Array.getElem?_toList]
    exact Array.getElem?_eq_getElem (xs := s.data) (i := i) h))
  have hk0 := heap_alloc_new w (.cells #[.int .u32 0, .int .i64 0] 25)
  have hb0 : Below w.heap.size w (w.alloc (.cells #[.int .u32 0, .int .i64 0] 25)) := (Below.refl _ _).alloc (Nat.le_refl _) _
  go_enter Tryz.func47, Tryz.ntmps47
  go_wp2
  generalize w.alloc (.cells #[.int .u32 0, .int .i64 0] 25) = W at *
  have hsz0 : w.heap.size < W.heap.size := lt_of_block hk0
  go_loop [4] (fun i => ∃ k : Nat, i = .int .i64 k ∧ k ≤ s.size ∧ Hid ((47 : UInt8) ∉ s.data.toList.take k)) (fun i => s.size - (intOf i).toNat)
  case atStart => exact ⟨0, rfl, by omega, Lib.hid (by simp)⟩
  case round =>
    obtain ⟨k, rfl, hk, hno⟩ := hrel
    obtain ⟨c0, c1, f0, f1⟩ := two_cells hk0
    have HK := Lib.hid hk0
    clear hk0
    by_cases hlt : k < s.size
    · have hI3 : (k : Int) < (s.size : Int) := by omega
      have hI4 : (0 : Int) ≤ k := by omega
      have hI5 : (k : Int) ≤ (s.size : Int) := by omega
      have hx := HQ.out k hlt
      obtain ⟨v, hv⟩ : ∃ v : Int, ((s[k]'hlt).toNat : Int) = v := ⟨_, rfl⟩
      by_cases h47 : s[k]'hlt = 47
      · have hv2 : (v == 47) = true := by rw [← hv, h47]; rfl
        have hO := Lib.hid (ppO_at (split_at (by rw [hx.out, h47])) hno.out)
        have e1 : (s.extract 0 k).data.toList = s.data.toList.take k := by rw [Lib.extract_data]; simp
        have e2 : (s.extract (k + 1) s.size).data.toList = s.data.toList.drop (k + 1) := by rw [Lib.extract_data, HS.out]; exact List.take_of_length_le (by simp)
        have hP := Lib.hid (show ∀ u : World, Calls Tryz.prog 68 #[.string (s.extract 0 k)] u fun e w' => e = .returned (.tuple #[.int .u32 (adV (parseB (s.data.toList.take k))), .int .i64 (adE (parseB (s.data.toList.take k)))]) ∧ Below u.heap.size u w' from fun u => by
          have h := refParse_any (s.extract 0 k) u (by have h1 : (s.extract 0 k).size = (s.extract 0 k).data.toList.length := (Array.length_toList).symm; rw [h1, e1, List.length_take]; omega)
          rw [e1] at h; exact h)
        have hR := Lib.hid (show ∀ u : World, Calls Tryz.prog 46 #[.string (s.extract (k + 1) s.size), .int .i64 32] u fun e w' => e = .returned (.int .i64 (rdV (s.data.toList.drop (k + 1)) 32)) ∧ u = w' from fun u => by
          have h := refRead_any (s.extract (k + 1) s.size) 32 (by omega) u
          rw [e2] at h; exact h)
        clear e1 e2 h47 hx hno
        generalize s.data.toList.take k = x at *
        generalize s.data.toList.drop (k + 1) = y at *
        go_wp2_with fail
        refine (hP.out _).mono ?_
        rintro e w1 ⟨rfl, hb1⟩
        have hbw := hb0.trans (hb1.mono hb0.size)
        have K1 := blk_below hb1 HK.out
        clear c0 c1 f0 f1 hb1
        obtain ⟨c0, c1, f0, f1⟩ := two_cells K1
        have hsz1 := lt_of_block K1
        have HK1 := Lib.hid K1
        clear K1
        go_wp2_with fail
        refine (hR.out _).mono ?_
        rintro e w2 ⟨rfl, rfl⟩
        cases ha : parseB x with
        | none =>
          have ea : adE (none : Option Nat) = 4 := rfl
          have hN := Lib.hid (pp_none (l := s.data.toList) (by rw [hO.out]; simp [ha]))
          clear hO
          go_wp2
          exact bodyPost_ret (results_p (t1 := 2) (t3 := 3) (g := w.heap.size) Tryz.results47 rfl rfl (set_1 (set_0 HK1.out))) rfl ⟨ret_p2 ⟨hN.out.2.1.symm, hN.out.2.2.symm, hN.out.1.symm⟩, (hbw.setCell (Nat.le_refl _) _).setCell (Nat.le_refl _) _⟩
        | some a =>
        have ea : adE (some a) = 0 := rfl
        have ev : adV (some a) = (a : Int) := rfl
        have hal := parseB_lt ha
        cases hb : readB y 32 with
        | none =>
          have hr := rdV_none hb
          have hN := Lib.hid (pp_none (l := s.data.toList) (by rw [hO.out]; simp [ha, hb]))
          clear hO
          go_wp2
          exact bodyPost_ret (results_p (t1 := 2) (t3 := 3) (g := w.heap.size) Tryz.results47 rfl rfl (set_1 (set_0 HK1.out))) rfl ⟨ret_p2 ⟨hN.out.2.1.symm, hN.out.2.2.symm, hN.out.1.symm⟩, (hbw.setCell (Nat.le_refl _) _).setCell (Nat.le_refl _) _⟩
        | some n =>
          have hr := rdV_some hb
          have hnl := readB_le hb
          have hO2 := Lib.hid (show ppO s.data.toList = some (a, n) by rw [hO.out, ha]; simp [hb])
          have hn0 : ¬ (n : Int) < 0 := by omega
          clear hO
          by_cases hc : chk a n = 0
          · have hd : (chk a n != 0) = false := by simp [hc]
            have hY := Lib.hid (pp_yes hO2.out hc)
            clear hc ha hb
            go_wp2_with fail
            refine (refCheck_any _ _ _ (by omega) (by omega)).mono ?_
            rintro e w4 ⟨rfl, hb4⟩
            have K3 := blk_below hb4 ((Below.heap_alloc w1 (.cells #[.int .u32 a, .int .i64 n] 25) _ hsz1).trans HK1.out)
            have K4 := blk_below hb4 (blk1 w1 (.cells #[.int .u32 a, .int .i64 n] 25))
            have hbw4 := below_call (hbw.alloc hbw.size _) hb4
            clear c0 c1 f0 f1 hb4
            obtain ⟨c0, c1, f0, f1⟩ := two_cells K3
            obtain ⟨c2, c3, f2, f3⟩ := two_cells K4
            have HK4 := Lib.hid K3
            have hne : w.heap.size ≠ w1.heap.size := by omega
            clear K3 K4
            go_wp2
            exact bodyPost_ret (results_p (t1 := 2) (t3 := 3) (g := w.heap.size) Tryz.results47 rfl rfl (set_1 (set_0 HK4.out))) rfl ⟨ret_p2 ⟨hY.out.2.1.symm, hY.out.2.2.symm, hY.out.1.symm⟩, (hbw4.setCell (Nat.le_refl _) _).setCell (Nat.le_refl _) _⟩
          · have hd : (chk a n != 0) = true := by simp [hc]
            have hY := Lib.hid (pp_no hO2.out hc)
            have h10 := Lib.hid (show chk (a : Int) (n : Int) = 10 from by
              rcases (show (a : Int) % sz n = 0 ∨ ¬ (a : Int) % sz n = 0 by omega) with h | h
              · exact absurd (chk_zero a n (by omega) (by omega) h) hc
              · exact chk_mask a n (by omega) (by omega) h)
            clear hc ha hb
            go_wp2_with fail
            refine (refCheck_any _ _ _ (by omega) (by omega)).mono ?_
            rintro e w4 ⟨rfl, hb4⟩
            have K3 := blk_below hb4 ((Below.heap_alloc w1 (.cells #[.int .u32 a, .int .i64 n] 25) _ hsz1).trans HK1.out)
            have K4 := blk_below hb4 (blk1 w1 (.cells #[.int .u32 a, .int .i64 n] 25))
            have hbw4 := below_call (hbw.alloc hbw.size _) hb4
            clear c0 c1 f0 f1 hb4
            obtain ⟨c0, c1, f0, f1⟩ := two_cells K3
            obtain ⟨c2, c3, f2, f3⟩ := two_cells K4
            have HK4 := Lib.hid K3
            have hne : w.heap.size ≠ w1.heap.size := by omega
            clear K3 K4
            go_wp2
            exact bodyPost_ret (results_p (t1 := 2) (t3 := 3) (g := w.heap.size) Tryz.results47 rfl rfl (set_1 (set_0 HK4.out))) rfl ⟨ret_p2 ⟨hY.out.2.1.symm, hY.out.2.2.symm, by rw [hY.out.1, h10.out]⟩, (hbw4.setCell (Nat.le_refl _) _).setCell (Nat.le_refl _) _⟩
      · have hv2 : (v == 47) = false := by
          simp
          intro h
          apply h47
          apply UInt8.toNat_inj.1
          have : (47 : UInt8).toNat = 47 := rfl
          omega
        have hno2 := Lib.hid (take_no hno.out hx.out h47)
        clear h47 hx hno
        go_wp2
        exact ⟨⟨k + 1, by go_num, by omega, hno2⟩, by simp only [intOf]; omega⟩
    · obtain rfl : k = s.size := by omega
      have hN := Lib.hid (pp_none (l := s.data.toList) (cut_none (by have h := hno.out; rw [HS.out, List.take_length] at h; exact h)))
      clear hno
      go_wp2
      exact bodyPost_ret (results_p (t1 := 2) (t3 := 3) (g := w.heap.size) Tryz.results47 rfl rfl (set_1 (set_0 HK.out))) rfl ⟨ret_p2 ⟨hN.out.2.1.symm, hN.out.2.2.symm, hN.out.1.symm⟩, (hb0.setCell (Nat.le_refl _) _).setCell (Nat.le_refl _) _⟩
end Go.Proofs.YtmgeknghgngliaaGreatDoor

/-
  The document's text of a set, its numbers, its spans and its Parse (written by wip/gen/gensx3.py).
-/
namespace Go.Proofs.YtmgeknghgngliaaGreatDoor
open Go Go.RowKit Go.Lib Go.Sort

theorem join_step {F : List SpanV} {j : Nat} {x : SpanV} {t u : ByteArray} (hx : F[j]? = some x) (ht : t.data.toList = joinC ((F.take j).map SpanV.t)) (hu : u.data.toList = if j = 0 then x.t else t.data.toList ++ 44 :: x.t) : u.data.toList = joinC ((F.take (j + 1)).map SpanV.t) := by
  rw [List.take_add_one, hx]
  simp only [Option.toList, List.map_append, List.map_cons, List.map_nil]
  rw [joinC_snoc, hu]
  have hj := (List.getElem?_eq_some_iff.1 hx).1
  by_cases h0 : j = 0
  · subst h0; simp
  · rw [if_neg h0, if_neg, ht]
    intro h
    have h9 := congrArg List.length h
    rw [List.length_map, List.length_take] at h9
    simp only [List.length_nil] at h9
    omega
theorem size_of_list {u : ByteArray} {l : List UInt8} (h : u.data.toList = l) : u.size = l.length := by rw [← h]; exact (Array.length_toList).symm
theorem digits_data (n : Int) : (⟨(Lib.decDigits n.toNat).toArray⟩ : ByteArray).data.toList = Lib.decDigits n.toNat := rfl
set_option maxRecDepth 100000 in
set_option maxHeartbeats 4000000 in
theorem refSpText_any (L : List SpanV) (vl : Value) (w : World) (hE : Env w) (hl : Rd w w.heap.size 2 vl L.length (scells L)) (hlen : L.length ≤ 1000000) :
    Calls Tryz.prog 29 #[vl] w fun e w' => e = .returned (.string ⟨(setT (formOf L)).toArray⟩) ∧ Below w.heap.size w w' := by
  obtain ⟨A0, c0, rfl, _⟩ := hl.form
  have hform := refForm_any L _ w hl (by omega)
  have hFl := formOf_len L
  clear hl
  generalize formOf L = F at *
  have HF := Lib.hid (show Calls _ _ _ _ (SetRes F w) from hform)
  clear hform
  go_enter Tryz.func29, Tryz.ntmps29
  go_wp2_with fail
  refine HF.out.mono ?_
  rintro e w1 ⟨v1, rfl, hown1, hb1⟩
  have hr1 := Rd.of_own hown1
  obtain ⟨A1, c1, rfl, _⟩ := hr1.form
  have HR := Lib.hid hr1
  have hE1 := hE.below hb1
  clear hown1 hr1
  go_wp2
  go_loopw [4, 5] (fun s i wr => ∃ (j : Nat) (t : ByteArray), i = .int .i64 j ∧ s = .string t ∧ j ≤ F.length ∧ t.size ≤ 22 * j ∧ Hid (t.data.toList = joinC ((F.take j).map SpanV.t)) ∧ Below w1.heap.size w1 wr) (fun _ i _ => F.length - (intOf i).toNat)
  case atStart => exact ⟨0, ⟨#[]⟩, rfl, rfl, by omega, by decide, Lib.hid (by simp [joinC]), Below.refl _ _⟩
  case round =>
    obtain ⟨j, t, rfl, rfl, hj, hts, ht, hnx⟩ := hrel
    have hsz := hnx.size
    by_cases hlt : j < F.length
    · have hI : (j : Int) < (F.length : Int) := by omega
      obtain ⟨x, hx⟩ : ∃ x, F[j]? = some x := ⟨_, List.getElem?_eq_getElem hlt⟩
      obtain ⟨b, off, c', hv, _, hbB, hcell⟩ := HR.out.posAt (by omega)
      injection hv with hv1 _ hv3
      subst hv1 hv3
      have C0 := Lib.hid (show w1.cell? ⟨b, off + j * 2, none⟩ = some (.int .u32 x.lo) from hcell j 0 _ (scell hx rfl))
      have C1 := Lib.hid (show w1.cell? ⟨b, off + j * 2 + 1, none⟩ = some (.int .u32 x.hi) from hcell j 1 _ (scell hx rfl))
      have xlo := x.hlo
      have xhi := x.hhi
      have z1 := dec_size (n := x.lo) (by omega)
      have z2 := dec_size (n := x.hi) (by omega)
      have hEr := hE1.below hnx
      have HX := Lib.hid hx
      clear hcell hx
      have hc := Lib.hid (fun W (h : Env W) => fmtInt_any x.lo (by omega) (by omega) W h)
      have hd := Lib.hid (fun W (h : Env W) => fmtInt_any x.hi (by omega) (by omega) W h)
      have hcmp : (x.lo = x.hi ∧ (x.hi != x.lo) = false) ∨ (x.lo ≠ x.hi ∧ (x.hi != x.lo) = true) := by
        by_cases h : x.lo = x.hi
        · exact .inl ⟨h, by simp [h]⟩
        · exact .inr ⟨h, by simp; exact fun e => h e.symm⟩
      have q1d : (⟨(Lib.decDigits x.lo.toNat).toArray⟩ : ByteArray).data.toList = Lib.decDigits x.lo.toNat := rfl
      have q2d : (⟨(Lib.decDigits x.hi.toNat).toArray⟩ : ByteArray).data.toList = Lib.decDigits x.hi.toNat := rfl
      generalize (⟨(Lib.decDigits x.lo.toNat).toArray⟩ : ByteArray) = q1 at *
      generalize (⟨(Lib.decDigits x.hi.toNat).toArray⟩ : ByteArray) = q2 at *
      have Q1 := Lib.hid q1d
      have Q2 := Lib.hid q2d
      clear q1d q2d
      by_cases hj0 : j = 0
      · subst hj0
        have hI2 : ¬ ((0 : Nat) : Int) > 0 := by omega
        have ht0 : t.data.toList = [] := by rw [ht.out]; rfl
        have D0 := Lib.hid (show w1.cell? ⟨b, off, none⟩ = some (.int .u32 x.lo) by simpa using C0.out)
        have D1 := Lib.hid (show w1.cell? ⟨b, off + 1, none⟩ = some (.int .u32 x.hi) by simpa using C1.out)
        clear C0 C1
        rcases hcmp with ⟨hc1, hc2⟩ | ⟨hc1, hc2⟩
        · have hu : (t ++ q1).data.toList = joinC ((F.take (0 + 1)).map SpanV.t) := join_step HX.out ht.out (by
            unfold SpanV.t
            rw [if_pos hc1, if_pos rfl, ← Q1.out]
            simp [ByteArray.data_append, ht0])
          have hus : (t ++ q1).size ≤ 22 * (0 + 1) := by
            simp only [ByteArray.size_append]
            have e44 : (⟨#[44]⟩ : ByteArray).size = 1 := rfl
            have e45 : (⟨#[45]⟩ : ByteArray).size = 1 := rfl
            omega
          have HU := Lib.hid hu
          have HUS := Lib.hid hus
          clear hu hus hc1 ht0
          have f0 := (hnx.cell (p := ⟨b, off, none⟩) hbB).trans D0.out
          have f1 := (hnx.cell (p := ⟨b, off + 1, none⟩) hbB).trans D1.out
          go_wp2_with fail
          refine (hc.out _ hEr).mono ?_
          rintro e w2 ⟨rfl, hb⟩
          have hnx2 := hnx.trans (hb.mono hsz)
          have hEr2 := hE1.below hnx2
          clear hb f0 f1 hnx hEr
          have f0 := (hnx2.cell (p := ⟨b, off, none⟩) hbB).trans D0.out
          have f1 := (hnx2.cell (p := ⟨b, off + 1, none⟩) hbB).trans D1.out
          have R0 := cell_regrown f0
          have R1 := cell_regrown f1
          clear f0 f1
          go_wp2
          refine wp_region_quiet_below (by kernel_rfl) (by kernel_rfl) ?_
          repeat (first | go_big_quiet_step (fail) | quiet_step (fail))
          refine wpQuiet_nil ?_
          intro _ hw'
          obtain ⟨⟨nq, osq⟩, hw''⟩ := hw'
          subst hw''
          have hq := below_regrown w2 nq osq
          have f0 := R0 nq osq
          have f1 := R1 nq osq
          clear R0 R1
          generalize grow (redrawn w2 nq) osq = w2r at *
          have hnx2r := hnx2.trans (hq.mono hnx2.size)
          have hEr2r := hE1.below hnx2r
          clear hq hnx2 hEr2
          go_wp2
          exact ⟨⟨0 + 1, _, by go_num, rfl, by omega, HUS.out, HU, hnx2r⟩, by simp only [intOf]; omega⟩
        · have hu : (t ++ q1 ++ ⟨#[45]⟩ ++ q2).data.toList = joinC ((F.take (0 + 1)).map SpanV.t) := join_step HX.out ht.out (by
            unfold SpanV.t
            rw [if_neg hc1, if_pos rfl, ← Q1.out, ← Q2.out]
            simp [ByteArray.data_append, ht0])
          have hus : (t ++ q1 ++ ⟨#[45]⟩ ++ q2).size ≤ 22 * (0 + 1) := by
            simp only [ByteArray.size_append]
            have e44 : (⟨#[44]⟩ : ByteArray).size = 1 := rfl
            have e45 : (⟨#[45]⟩ : ByteArray).size = 1 := rfl
            omega
          have HU := Lib.hid hu
          have HUS := Lib.hid hus
          clear hu hus hc1 ht0
          have f0 := (hnx.cell (p := ⟨b, off, none⟩) hbB).trans D0.out
          have f1 := (hnx.cell (p := ⟨b, off + 1, none⟩) hbB).trans D1.out
          go_wp2_with fail
          refine (hc.out _ hEr).mono ?_
          rintro e w2 ⟨rfl, hb⟩
          have hnx2 := hnx.trans (hb.mono hsz)
          have hEr2 := hE1.below hnx2
          clear hb f0 f1 hnx hEr
          have f0 := (hnx2.cell (p := ⟨b, off, none⟩) hbB).trans D0.out
          have f1 := (hnx2.cell (p := ⟨b, off + 1, none⟩) hbB).trans D1.out
          have R0 := cell_regrown f0
          have R1 := cell_regrown f1
          clear f0 f1
          go_wp2
          refine wp_region_quiet_below (by kernel_rfl) (by kernel_rfl) ?_
          repeat (first | go_big_quiet_step (fail) | quiet_step (fail))
          refine wpQuiet_nil ?_
          intro _ hw'
          obtain ⟨⟨nq, osq⟩, hw''⟩ := hw'
          subst hw''
          have hq := below_regrown w2 nq osq
          have f0 := R0 nq osq
          have f1 := R1 nq osq
          clear R0 R1
          generalize grow (redrawn w2 nq) osq = w2r at *
          have hnx2r := hnx2.trans (hq.mono hnx2.size)
          have hEr2r := hE1.below hnx2r
          clear hq hnx2 hEr2
          go_wp2_with fail
          refine (hd.out _ hEr2r).mono ?_
          rintro e w3 ⟨rfl, hb⟩
          have hnx3 := hnx2r.trans (hb.mono hnx2r.size)
          clear hb f0 f1 hnx2r hEr2r
          go_wp2
          exact ⟨⟨0 + 1, _, by go_num, rfl, by omega, HUS.out, HU, hnx3⟩, by simp only [intOf]; omega⟩
      · have hI2 : (j : Int) > 0 := by omega
        rcases hcmp with ⟨hc1, hc2⟩ | ⟨hc1, hc2⟩
        · have hu : (t ++ ⟨#[44]⟩ ++ q1).data.toList = joinC ((F.take (j + 1)).map SpanV.t) := join_step HX.out ht.out (by
            unfold SpanV.t
            rw [if_pos hc1, if_neg hj0, ← Q1.out]
            simp [ByteArray.data_append])
          have hus : (t ++ ⟨#[44]⟩ ++ q1).size ≤ 22 * (j + 1) := by
            simp only [ByteArray.size_append]
            have e44 : (⟨#[44]⟩ : ByteArray).size = 1 := rfl
            have e45 : (⟨#[45]⟩ : ByteArray).size = 1 := rfl
            omega
          have HU := Lib.hid hu
          have HUS := Lib.hid hus
          clear hu hus hc1
          have f0 := (hnx.cell (p := ⟨b, off + j * 2, none⟩) hbB).trans C0.out
          have f1 := (hnx.cell (p := ⟨b, off + j * 2 + 1, none⟩) hbB).trans C1.out
          go_wp2_with fail
          refine (hc.out _ hEr).mono ?_
          rintro e w2 ⟨rfl, hb⟩
          have hnx2 := hnx.trans (hb.mono hsz)
          have hEr2 := hE1.below hnx2
          clear hb f0 f1 hnx hEr
          have f0 := (hnx2.cell (p := ⟨b, off + j * 2, none⟩) hbB).trans C0.out
          have f1 := (hnx2.cell (p := ⟨b, off + j * 2 + 1, none⟩) hbB).trans C1.out
          have R0 := cell_regrown f0
          have R1 := cell_regrown f1
          clear f0 f1
          go_wp2
          refine wp_region_quiet_below (by kernel_rfl) (by kernel_rfl) ?_
          repeat (first | go_big_quiet_step (fail) | quiet_step (fail))
          refine wpQuiet_nil ?_
          intro _ hw'
          obtain ⟨⟨nq, osq⟩, hw''⟩ := hw'
          subst hw''
          have hq := below_regrown w2 nq osq
          have f0 := R0 nq osq
          have f1 := R1 nq osq
          clear R0 R1
          generalize grow (redrawn w2 nq) osq = w2r at *
          have hnx2r := hnx2.trans (hq.mono hnx2.size)
          have hEr2r := hE1.below hnx2r
          clear hq hnx2 hEr2
          go_wp2
          exact ⟨⟨j + 1, _, by go_num, rfl, by omega, HUS.out, HU, hnx2r⟩, by simp only [intOf]; omega⟩
        · have hu : (t ++ ⟨#[44]⟩ ++ q1 ++ ⟨#[45]⟩ ++ q2).data.toList = joinC ((F.take (j + 1)).map SpanV.t) := join_step HX.out ht.out (by
            unfold SpanV.t
            rw [if_neg hc1, if_neg hj0, ← Q1.out, ← Q2.out]
            simp [ByteArray.data_append])
          have hus : (t ++ ⟨#[44]⟩ ++ q1 ++ ⟨#[45]⟩ ++ q2).size ≤ 22 * (j + 1) := by
            simp only [ByteArray.size_append]
            have e44 : (⟨#[44]⟩ : ByteArray).size = 1 := rfl
            have e45 : (⟨#[45]⟩ : ByteArray).size = 1 := rfl
            omega
          have HU := Lib.hid hu
          have HUS := Lib.hid hus
          clear hu hus hc1
          have f0 := (hnx.cell (p := ⟨b, off + j * 2, none⟩) hbB).trans C0.out
          have f1 := (hnx.cell (p := ⟨b, off + j * 2 + 1, none⟩) hbB).trans C1.out
          go_wp2_with fail
          refine (hc.out _ hEr).mono ?_
          rintro e w2 ⟨rfl, hb⟩
          have hnx2 := hnx.trans (hb.mono hsz)
          have hEr2 := hE1.below hnx2
          clear hb f0 f1 hnx hEr
          have f0 := (hnx2.cell (p := ⟨b, off + j * 2, none⟩) hbB).trans C0.out
          have f1 := (hnx2.cell (p := ⟨b, off + j * 2 + 1, none⟩) hbB).trans C1.out
          have R0 := cell_regrown f0
          have R1 := cell_regrown f1
          clear f0 f1
          go_wp2
          refine wp_region_quiet_below (by kernel_rfl) (by kernel_rfl) ?_
          repeat (first | go_big_quiet_step (fail) | quiet_step (fail))
          refine wpQuiet_nil ?_
          intro _ hw'
          obtain ⟨⟨nq, osq⟩, hw''⟩ := hw'
          subst hw''
          have hq := below_regrown w2 nq osq
          have f0 := R0 nq osq
          have f1 := R1 nq osq
          clear R0 R1
          generalize grow (redrawn w2 nq) osq = w2r at *
          have hnx2r := hnx2.trans (hq.mono hnx2.size)
          have hEr2r := hE1.below hnx2r
          clear hq hnx2 hEr2
          go_wp2_with fail
          refine (hd.out _ hEr2r).mono ?_
          rintro e w3 ⟨rfl, hb⟩
          have hnx3 := hnx2r.trans (hb.mono hnx2r.size)
          clear hb f0 f1 hnx2r hEr2r
          go_wp2
          exact ⟨⟨j + 1, _, by go_num, rfl, by omega, HUS.out, HU, hnx3⟩, by simp only [intOf]; omega⟩
    · obtain rfl : j = F.length := by omega
      have hI : ¬ (F.length : Int) < (F.length : Int) := by omega
      have ht2 := ht.out
      rw [List.take_length] at ht2
      by_cases hF : F = []
      · have hz : (⟨(setT F).toArray⟩ : ByteArray) = ⟨#[45]⟩ := by rw [hF]; rfl
        have hq : (t.toList == ([] : List UInt8)) = true := by rw [list_of, ht2, hF]; rfl
        have HZ := Lib.hid hz
        clear hz ht2 ht hF
        go_wp2
        go_ret
        exact ⟨by first | (rw [HZ.out]; done) | (rw [HZ.out]; rfl), hb1.trans (hnx.mono hb1.size)⟩
      · have hz : (⟨(setT F).toArray⟩ : ByteArray) = t := by rw [setT_cons hF, ← ht2]
        have hq : (t.toList == ([] : List UInt8)) = false := by rw [list_of, ht2]; simpa using joinC_ne hF
        have HZ := Lib.hid hz
        clear hz ht2 ht hF
        go_wp2
        go_ret
        exact ⟨by first | (rw [HZ.out]; done) | (rw [HZ.out]; rfl), hb1.trans (hnx.mono hb1.size)⟩
end Go.Proofs.YtmgeknghgngliaaGreatDoor

/-
  The document's number and span.
-/
namespace Go.Proofs.YtmgeknghgngliaaGreatDoor
open Go Go.RowKit Go.Lib Go.Sort

theorem readB_val {l : List UInt8} {m k : Nat} (h : readB l m = some k) : k = valD 0 l := by
  obtain ⟨h1, _⟩ := readB_some.1 h
  rw [← h1, decDigits_val]
theorem readB_long11 {l : List UInt8} (h : 11 < l.length) : readB l 4294967295 = none := by
  cases e : readB l 4294967295 with
  | none => rfl
  | some n =>
    obtain ⟨h1, h2⟩ := readB_some.1 e
    have := dec_long 10 n (by rw [h1]; omega)
    omega
theorem readB_big {l : List UInt8} {m : Nat} (h : m < valD 0 l) : readB l m = none := by
  cases e : readB l m with
  | none => rfl
  | some n =>
    have := readB_val e
    obtain ⟨_, h2⟩ := readB_some.1 e
    omega
theorem readB_eq {l : List UInt8} {m a : Nat} (hm : a ≤ m) (hd : Lib.decDigits a = l) : readB l m = some a := readB_some.2 ⟨hd, hm⟩
theorem readB_ne {l : List UInt8} {m a : Nat} (h : a = valD 0 l) (hd : Lib.decDigits a ≠ l) : readB l m = none := by
  cases e : readB l m with
  | none => rfl
  | some n =>
    have := readB_val e
    obtain ⟨h1, _⟩ := readB_some.1 e
    rw [this, ← h] at h1
    exact absurd h1 hd
/-- What number hands back. -/
def NumRes (l : List UInt8) (e : Ending) : Prop := ∃ x : Int, e = .returned (.tuple #[.int .u32 x, .bool (readB l 4294967295).isSome]) ∧ 0 ≤ x ∧ x < 4294967296 ∧ ∀ n : Nat, readB l 4294967295 = some n → x = n
theorem num_no {l : List UInt8} {x : Int} (h0 : 0 ≤ x) (h1 : x < 4294967296) (h : readB l 4294967295 = none) : NumRes l (.returned (.tuple #[.int .u32 x, .bool false])) := ⟨x, by rw [h]; rfl, h0, h1, fun n hn => by rw [h] at hn; cases hn⟩
theorem num_yes {l : List UInt8} {a : Nat} (h : readB l 4294967295 = some a) : NumRes l (.returned (.tuple #[.int .u32 a, .bool true])) := ⟨a, by rw [h]; rfl, by omega, by have := readB_le h; omega, fun n hn => by rw [h] at hn; injection hn with hn; rw [hn]⟩
set_option maxRecDepth 100000 in
set_option maxHeartbeats 4000000 in
theorem number02_any (s : ByteArray) (w : World) (hE : Env w) :
    Calls Tryz.prog 108 #[.string s] w fun e w' => NumRes s.data.toList e ∧ Below w.heap.size w w' := by
  have HS := Lib.hid (show s.size = s.data.toList.length from (Array.length_toList).symm)
  have t9 := Tryz.underlying9
  have u9 := run_underlying t9
  have t5 := Tryz.underlying5
  have HQ := Lib.hid (show ∀ (i : Nat) (h : i < s.size), Hid (s.data.toList[i]? = some (s[i]'h)) from fun i h => Lib.hid (by
    rw [Array.getElem?_toList]
    exact Array.getElem?_eq_getElem (xs := s.data) (i := i) h))
  go_enter Tryz.func108, Tryz.ntmps108
  go_wp2
  go_loop [4, 5] (fun n i => ∃ k a : Nat, i = .int .i64 k ∧ n = .int .u64 a ∧ k ≤ s.size ∧ k ≤ 11 ∧ Hid (a = valD 0 (s.data.toList.take k)) ∧ Hid ((s.data.toList.take k).all isDig = true)) (fun _ i => s.size - (intOf i).toNat)
  case atStart => exact ⟨0, 0, rfl, rfl, by omega, by omega, Lib.hid (by simp [valD]), Lib.hid (by simp)⟩
  case round =>
    obtain ⟨k, a, rfl, rfl, hk, hk11, ha, hall⟩ := hrel
    have ha12 : a < 100000000000 := by
      rw [ha.out]
      exact valD_lt 11 _ (by rw [List.length_take]; omega) hall.out
    by_cases hlt : k < s.size
    · have hx := HQ.out k hlt
      have hI3 : (k : Int) < (s.size : Int) := by omega
      have hI4 : (0 : Int) ≤ k := by omega
      obtain ⟨v, hv⟩ : ∃ v : Int, ((s[k]'hlt).toNat : Int) = v := ⟨_, rfl⟩
      have hvn : 0 ≤ v := by omega
      have hxv := Lib.hid (show (s[k]'hlt).toNat = v.toNat by omega)
      rcases (show v < 48 ∨ (48 ≤ v ∧ 57 < v) ∨ (48 ≤ v ∧ v ≤ 57) by omega) with h1 | ⟨h1, h2⟩ | ⟨h1, h2⟩
      · have hr := Lib.hid (readB_bad (m := 4294967295) hx.out (by unfold isDig; rw [hxv.out]; simp; omega))
        have d1 : decide (v < 48) = true := by simp [h1]
        clear hx hxv ha12 hvn
        go_wp2
        go_ret2
        exact ⟨num_no (by omega) (by omega) hr.out, Below.refl _ _⟩
      · have hr := Lib.hid (readB_bad (m := 4294967295) hx.out (by unfold isDig; rw [hxv.out]; simp; omega))
        have d1 : decide (v < 48) = false := by simp; omega
        have d2 : decide (57 < v) = true := by simp [h2]
        clear hx hxv ha12 hvn
        go_wp2
        go_ret2
        exact ⟨num_no (by omega) (by omega) hr.out, Below.refl _ _⟩
      · have d1 : decide (v < 48) = false := by simp; omega
        have d2 : decide (57 < v) = false := by simp; omega
        by_cases h10 : 10 < k
        · have hr := Lib.hid (readB_long11 (l := s.data.toList) (by rw [← HS.out]; omega))
          have d3 : (k : Int) > 10 := by omega
          clear hx hxv ha12 hvn
          go_wp2
          go_ret2
          exact ⟨num_no (by omega) (by omega) hr.out, Below.refl _ _⟩
        · have d3 : ¬ (k : Int) > 10 := by omega
          have hdig : isDig (s[k]'hlt) = true := by unfold isDig; rw [hxv.out]; simp; omega
          have ha2 := Lib.hid (show 10 * a + (v.toNat - 48) = valD 0 (s.data.toList.take (k + 1)) by rw [valD_take hx.out, hxv.out, ← ha.out])
          have hall2 := Lib.hid (show (s.data.toList.take (k + 1)).all isDig = true by rw [List.take_add_one, hx.out, List.all_append, hall.out]; simp [hdig])
          have w2 : (v - 48) % 256 = v - 48 := by omega
          have hpos2 := Lib.hid (show ((10 * a + (v.toNat - 48) : Nat) : Int) = (a : Int) * 10 + (v - 48) by omega)
          clear hx hxv hdig ha hall hvn
          go_wp2
          clear w2 d1 d2
          refine ⟨⟨k + 1, 10 * a + (v.toNat - 48), by go_num, ?_, by omega, by omega, ha2, hall2⟩, by simp only [intOf]; omega⟩
          rw [hpos2.out]
    · obtain rfl : k = s.size := by omega
      have hI3 : ¬ (s.size : Int) < (s.size : Int) := by omega
      have ha3 : a = valD 0 s.data.toList := by have h := ha.out; rw [HS.out, List.take_length] at h; exact h
      have HA := Lib.hid ha3
      clear ha3 ha hall
      have w1 : 0 ≤ (a : Int) % 4294967296 ∧ (a : Int) % 4294967296 < 4294967296 := by omega
      by_cases h0 : s.data.toList = []
      · have hr := Lib.hid (show readB s.data.toList 4294967295 = none by rw [h0]; exact readB_nil _)
        have he : (s.toList == ([] : List UInt8)) = true := by rw [list_of, h0]; rfl
        clear h0
        go_wp2
        go_ret2
        exact ⟨num_no w1.1 w1.2 hr.out, Below.refl _ _⟩
      · have he : (s.toList == ([] : List UInt8)) = false := by rw [list_of]; simpa using h0
        clear h0
        by_cases hb : a ≤ 4294967295
        · have hI5 : (a : Int) ≤ 4294967295 := by omega
          have hF := Lib.hid (fmtUint_any a (by omega) w hE)
          by_cases hd : Lib.decDigits a = s.data.toList
          · have hr := Lib.hid (readB_eq (m := 4294967295) hb hd)
            have hq : ((⟨(Lib.decDigits a).toArray⟩ : ByteArray).toList == s.toList) = true := by rw [list_of, list_of]; simp [hd]
            generalize (⟨(Lib.decDigits a).toArray⟩ : ByteArray) = q at *
            clear hd
            have w3 : (a : Int) % 4294967296 = a := by omega
            go_wp2_with fail
            refine hF.out.mono ?_
            rintro e w2 ⟨rfl, hb2⟩
            go_wp2
            go_ret2
            exact ⟨num_yes hr.out, hb2⟩
          · have hr := Lib.hid (readB_ne (m := 4294967295) HA.out hd)
            have hq : ((⟨(Lib.decDigits a).toArray⟩ : ByteArray).toList == s.toList) = false := by rw [list_of, list_of]; simpa using hd
            generalize (⟨(Lib.decDigits a).toArray⟩ : ByteArray) = q at *
            clear hd
            go_wp2_with fail
            refine hF.out.mono ?_
            rintro e w2 ⟨rfl, hb2⟩
            go_wp2
            go_ret2
            exact ⟨num_no (by omega) (by omega) hr.out, hb2⟩
        · have hI5 : ¬ (a : Int) ≤ 4294967295 := by omega
          have hr := Lib.hid (readB_big (m := 4294967295) (l := s.data.toList) (by rw [← HA.out]; omega))
          go_wp2
          go_ret2
          exact ⟨num_no w1.1 w1.2 hr.out, Below.refl _ _⟩

theorem wordD_hit {l x y : List UInt8} (h : l = x ++ 45 :: y) (hx : (45 : UInt8) ∉ x) : wordD l = match readB x 4294967295, readB y 4294967295 with
    | some a, some b => if a < b then some (a, b) else none
    | _, _ => none := by
  unfold wordD
  rw [h, cut_hit1 _ hx]
  simp only [if_true]
  cases readB x 4294967295 with
  | none => rfl
  | some a =>
    cases readB y 4294967295 with
    | none => rfl
    | some b =>
      dsimp only
      by_cases hab : a < b
      · rw [if_pos hab, if_pos ⟨by omega, fun _ => by omega⟩]
      · rw [if_neg hab, if_neg (fun h => hab (by have := h.2 trivial; omega))]
theorem wordD_one {l : List UInt8} (h : (45 : UInt8) ∉ l) : wordD l = (readB l 4294967295).map fun a => (a, a) := by
  unfold wordD
  rw [cut_none1 h]
  simp only [Bool.false_eq_true, if_false]
  cases readB l 4294967295 with
  | none => rfl
  | some a => simp
/-- What span hands back. -/
def SpanRes (l : List UInt8) (e : Ending) : Prop := ∃ x y : Int, e = .returned (.tuple #[.agg #[.int .u32 x, .int .u32 y], .bool (wordD l).isSome]) ∧ 0 ≤ x ∧ x < 4294967296 ∧ 0 ≤ y ∧ y < 4294967296 ∧ ∀ p : Nat × Nat, wordD l = some p → x = p.1 ∧ y = p.2
theorem span_res {l : List UInt8} {x y : Int} {b : Bool} (hb : b = (wordD l).isSome) (h0 : 0 ≤ x) (h1 : x < 4294967296) (h2 : 0 ≤ y) (h3 : y < 4294967296) (h : ∀ p : Nat × Nat, wordD l = some p → x = p.1 ∧ y = p.2) : SpanRes l (.returned (.tuple #[.agg #[.int .u32 x, .int .u32 y], .bool b])) := ⟨x, y, by rw [hb], h0, h1, h2, h3, h⟩
theorem results_s {fn : Func} {tmps : Array Value} {w : World} {g : Nat} {a b e : Value} {t1 t3 : Nat} (hf : fn.results = #[.cell t1 27, .tmp t3]) (h1 : tmps.getD t1 undef = .pointer (some ⟨g, 0, none⟩)) (h3 : tmps.getD t3 undef = e)
    (k1 : w.heap[g]? = some (.cells #[a, b] 27 (0, 0))) :
    (results fn tmps).run Tryz.prog w = .ok (.tuple #[.agg #[a, b], e]) w := by
  obtain ⟨c0, c1, _, _⟩ := two_cells k1
  have h1' : tmps[t1]?.getD undef = .pointer (some ⟨g, 0, none⟩) := by simpa using h1
  have h3' : tmps[t3]?.getD undef = e := by simpa using h3
  simp [results, hf, h1', h3', go_sem, c0, c1]
set_option maxRecDepth 100000 in
set_option maxHeartbeats 4000000 in
theorem span02_any (s : ByteArray) (w : World) (hE : Env w) (hlim : s.size < 1000000) :
    Calls Tryz.prog 79 #[.string s] w fun e w' => SpanRes s.data.toList e ∧ Below w.heap.size w w' := by
  have HS := Lib.hid (show s.size = s.data.toList.length from (Array.length_toList).symm)
  have t9 := Tryz.underlying9
  have HQ := Lib.hid (show ∀ (i : Nat) (h : i < s.size), Hid (s.data.toList[i]? = some (s[i]'h)) from fun i h => Lib.hid (by
    rw [Array.getElem?_toList]
    exact Array.getElem?_eq_getElem (xs := s.data) (i := i) h))
  have hk0 := heap_alloc_new w (.cells #[.int .u32 0, .int .u32 0] 27)
  have hb0 : Below w.heap.size w (w.alloc (.cells #[.int .u32 0, .int .u32 0] 27)) := (Below.refl _ _).alloc (Nat.le_refl _) _
  have hE0 := hE.below hb0
  go_enter Tryz.func79, Tryz.ntmps79
  go_wp2
  generalize w.alloc (.cells #[.int .u32 0, .int .u32 0] 27) = W at *
  go_loop [4] (fun i => ∃ k : Nat, i = .int .i64 k ∧ k ≤ s.size ∧ Hid ((45 : UInt8) ∉ s.data.toList.take k)) (fun i => s.size - (intOf i).toNat)
  case atStart => exact ⟨0, rfl, by omega, Lib.hid (by simp)⟩
  case round =>
    obtain ⟨k, rfl, hk, hno⟩ := hrel
    obtain ⟨c0, c1, f0, f1⟩ := two_cells hk0
    have HK := Lib.hid hk0
    clear hk0
    by_cases hlt : k < s.size
    · have hI3 : (k : Int) < (s.size : Int) := by omega
      have hI4 : (0 : Int) ≤ k := by omega
      have hI5 : (k : Int) ≤ (s.size : Int) := by omega
      have hx := HQ.out k hlt
      obtain ⟨v, hv⟩ : ∃ v : Int, ((s[k]'hlt).toNat : Int) = v := ⟨_, rfl⟩
      by_cases h45 : s[k]'hlt = 45
      · have hv2 : (v == 45) = true := by rw [← hv, h45]; rfl
        have hO := Lib.hid (wordD_hit (split_at (by rw [hx.out, h45])) hno.out)
        have e1 : (s.extract 0 k).data.toList = s.data.toList.take k := by rw [Lib.extract_data]; simp
        have e2 : (s.extract (k + 1) s.size).data.toList = s.data.toList.drop (k + 1) := by rw [Lib.extract_data, HS.out]; exact List.take_of_length_le (by simp)
        have hP := Lib.hid (show ∀ u : World, Env u → Calls Tryz.prog 108 #[.string (s.extract 0 k)] u fun e w' => NumRes (s.data.toList.take k) e ∧ Below u.heap.size u w' from fun u hu => by
          have h := number02_any (s.extract 0 k) u hu
          rw [e1] at h; exact h)
        have hR := Lib.hid (show ∀ u : World, Env u → Calls Tryz.prog 108 #[.string (s.extract (k + 1) s.size)] u fun e w' => NumRes (s.data.toList.drop (k + 1)) e ∧ Below u.heap.size u w' from fun u hu => by
          have h := number02_any (s.extract (k + 1) s.size) u hu
          rw [e2] at h; exact h)
        clear e1 e2 h45 hx hno
        generalize s.data.toList.take k = x at *
        generalize s.data.toList.drop (k + 1) = y at *
        go_wp2_with fail
        refine (hP.out _ hE0).mono ?_
        rintro e w1 ⟨⟨n1, rfl, g0, g1, g2⟩, hb⟩
        have K1 := blk_below hb HK.out
        have hb1 := below_call hb0 hb
        have hE1 := hE.below hb1
        clear c0 c1 f0 f1 hb
        go_wp2_with fail
        refine (hR.out _ hE1).mono ?_
        rintro e w2 ⟨⟨n2, rfl, k0, k1, k2⟩, hb⟩
        have K2 := blk_below hb K1
        have hbw := below_call hb1 hb
        clear hb hb1 K1
        obtain ⟨c0, c1, f0, f1⟩ := two_cells K2
        have HK2 := Lib.hid K2
        have G2 := Lib.hid g2
        have KK := Lib.hid k2
        clear g2 k2 K2
        cases ha : readB x 4294967295 with
        | none =>
          have hz : wordD s.data.toList = none := by rw [hO.out, ha]
          have hzz := Lib.hid hz
          clear hO ha hz
          go_wp2
          exact bodyPost_ret (results_s (t1 := 2) (t3 := 3) (g := w.heap.size) Tryz.results79 rfl rfl (set_1 (set_0 HK2.out))) rfl ⟨span_res (by rw [hzz.out]; rfl) g0 g1 k0 k1 (fun p hp => by rw [hzz.out] at hp; cases hp), (hbw.setCell (Nat.le_refl _) _).setCell (Nat.le_refl _) _⟩
        | some a =>
          obtain rfl := G2.out a ha
          cases hb : readB y 4294967295 with
          | none =>
            have hz : wordD s.data.toList = none := by rw [hO.out, ha, hb]
            have hzz := Lib.hid hz
            clear hO ha hb hz
            go_wp2
            exact bodyPost_ret (results_s (t1 := 2) (t3 := 3) (g := w.heap.size) Tryz.results79 rfl rfl (set_1 (set_0 HK2.out))) rfl ⟨span_res (by rw [hzz.out]; rfl) g0 g1 k0 k1 (fun p hp => by rw [hzz.out] at hp; cases hp), (hbw.setCell (Nat.le_refl _) _).setCell (Nat.le_refl _) _⟩
          | some b =>
            obtain rfl := KK.out b hb
            have hz : wordD s.data.toList = if a < b then some (a, b) else none := by rw [hO.out, ha, hb]
            have hzz := Lib.hid hz
            clear hO ha hb hz G2 KK
            by_cases hab : a < b
            · have hI6 : (a : Int) < (b : Int) := by omega
              go_wp2
              exact bodyPost_ret (results_s (t1 := 2) (t3 := 3) (g := w.heap.size) Tryz.results79 rfl rfl (set_1 (set_0 HK2.out))) rfl ⟨span_res (by rw [hzz.out, if_pos hab]; first | rfl | simp [hab]) g0 g1 k0 k1 (fun p hp => by rw [hzz.out, if_pos hab] at hp; injection hp with hp; subst hp; exact ⟨rfl, rfl⟩), (hbw.setCell (Nat.le_refl _) _).setCell (Nat.le_refl _) _⟩
            · have hI6 : ¬ (a : Int) < (b : Int) := by omega
              go_wp2
              exact bodyPost_ret (results_s (t1 := 2) (t3 := 3) (g := w.heap.size) Tryz.results79 rfl rfl (set_1 (set_0 HK2.out))) rfl ⟨span_res (by rw [hzz.out, if_neg hab]; first | rfl | simp [hab]) g0 g1 k0 k1 (fun p hp => by rw [hzz.out, if_neg hab] at hp; cases hp), (hbw.setCell (Nat.le_refl _) _).setCell (Nat.le_refl _) _⟩
      · have hv2 : (v == 45) = false := by
          simp
          intro h
          apply h45
          apply UInt8.toNat_inj.1
          have : (45 : UInt8).toNat = 45 := rfl
          omega
        have hno2 := Lib.hid (take_no hno.out hx.out h45)
        clear h45 hx hno
        go_wp2
        exact ⟨⟨k + 1, by go_num, by omega, hno2⟩, by simp only [intOf]; omega⟩
    · obtain rfl : k = s.size := by omega
      have hI3 : ¬ (s.size : Int) < (s.size : Int) := by omega
      have hno3 : (45 : UInt8) ∉ s.data.toList := by have h := hno.out; rw [HS.out, List.take_length] at h; exact h
      have hO := Lib.hid (wordD_one hno3)
      have hR := Lib.hid (fun u hu => number02_any s u hu)
      clear hno hno3 c0 c1 f0 f1
      go_wp2_with fail
      refine (hR.out _ hE0).mono ?_
      rintro e w1 ⟨⟨n1, rfl, g0, g1, g2⟩, hb⟩
      have K2 := blk_below hb HK.out
      have hbw := below_call hb0 hb
      clear hb
      obtain ⟨c0, c1, f0, f1⟩ := two_cells K2
      have HK2 := Lib.hid K2
      have G2 := Lib.hid g2
      clear g2 K2
      go_wp2
      refine bodyPost_ret (results_s (t1 := 2) (t3 := 3) (g := w.heap.size) Tryz.results79 rfl rfl (set_1 (set_0 HK2.out))) rfl ⟨span_res (by rw [hO.out]; cases readB s.data.toList 4294967295 <;> rfl) g0 g1 g0 g1 (fun p hp => ?_), (hbw.setCell (Nat.le_refl _) _).setCell (Nat.le_refl _) _⟩
      rw [hO.out] at hp
      cases hh : readB s.data.toList 4294967295 with
      | none => rw [hh] at hp; cases hp
      | some a =>
        rw [hh] at hp
        injection hp with hp
        subst hp
        exact ⟨G2.out a hh, G2.out a hh⟩
end Go.Proofs.YtmgeknghgngliaaGreatDoor

/-
  The document's Parse of a set's text.
-/
namespace Go.Proofs.YtmgeknghgngliaaGreatDoor
open Go Go.RowKit Go.Lib Go.Sort

/-- How far the text has been read: k bytes, the word begun at f, the spans M. -/
def DInv (l : List UInt8) (k f : Nat) (M : List SpanV) : Prop :=
  (k ≤ l.length ∧ f ≤ k ∧ RInv readD (pieces 44 l) (pieces 44 (l.drop f)) M ∧ (44 : UInt8) ∉ (l.drop f).take (k - f)) ∨ (k = l.length + 1 ∧ RInv readD (pieces 44 l) [] M)
theorem dinv_start (l : List UInt8) : DInv l 0 0 [] := Or.inl ⟨Nat.zero_le _, Nat.le_refl _, rinv_start readD _, by simp⟩
theorem drop_split44 {l : List UInt8} {k f : Nat} (hf : f ≤ k) (hk : l[k]? = some 44) : l.drop f = (l.drop f).take (k - f) ++ 44 :: l.drop (k + 1) := by
  have hkl := (List.getElem?_eq_some_iff.1 hk).1
  have e : (l.drop f).drop (k - f) = 44 :: l.drop (k + 1) := by
    rw [List.drop_drop, show f + (k - f) = k by omega, List.drop_eq_getElem_cons hkl]
    congr 1
    exact Option.some.inj ((List.getElem?_eq_getElem hkl).symm.trans hk)
  rw [← e, List.take_append_drop]
theorem dinv_skip {l : List UInt8} {k f : Nat} {M : List SpanV} {x : UInt8} (h : DInv l k f M) (hk : l[k]? = some x) (hx : x ≠ 44) : DInv l (k + 1) f M := by
  have hkl := (List.getElem?_eq_some_iff.1 hk).1
  rcases h with ⟨h1, h2, h3, h4⟩ | ⟨h1, _⟩
  · refine Or.inl ⟨by omega, by omega, h3, ?_⟩
    rw [show k + 1 - f = (k - f) + 1 by omega, List.take_add_one]
    have e : (l.drop f)[k - f]? = some x := by rw [List.getElem?_drop, show f + (k - f) = k by omega, hk]
    rw [e]
    intro h
    rcases List.mem_append.1 h with h | h
    · exact h4 h
    · simp at h; exact hx h.symm
  · omega
theorem dinv_word {l : List UInt8} {k f : Nat} {M : List SpanV} {b : ByteArray} (h : DInv l k f M) (hk : l[k]? = some 44) (hb : b.data.toList = (l.drop f).take (k - f)) : RInv readD (pieces 44 l) (b.data.toList :: pieces 44 (l.drop (k + 1))) M := by
  have hkl := (List.getElem?_eq_some_iff.1 hk).1
  rcases h with ⟨h1, h2, h3, h4⟩ | ⟨h1, _⟩
  · rw [drop_split44 h2 hk, pieces_cons _ h4, ← hb] at h3
    exact h3
  · omega
theorem dinv_last {l : List UInt8} {f : Nat} {M : List SpanV} {b : ByteArray} (h : DInv l l.length f M) (hb : b.data.toList = (l.drop f).take (l.length - f)) : RInv readD (pieces 44 l) [b.data.toList] M := by
  rcases h with ⟨h1, h2, h3, h4⟩ | ⟨h1, _⟩
  · have e : (l.drop f).take (l.length - f) = l.drop f := List.take_of_length_le (by simp)
    rw [e] at h4 hb
    rw [pieces_none h4, ← hb] at h3
    exact h3
  · omega
theorem dinv_next {l : List UInt8} {k : Nat} {M : List SpanV} (hk : k < l.length) (h : RInv readD (pieces 44 l) (pieces 44 (l.drop (k + 1))) M) : DInv l (k + 1) (k + 1) M := Or.inl ⟨hk, Nat.le_refl _, h, by simp⟩
theorem dinv_end {l : List UInt8} {M : List SpanV} (h : RInv readD (pieces 44 l) [] M) : DInv l (l.length + 1) (l.length + 1) M := Or.inr ⟨rfl, h⟩
theorem dinv_done {l : List UInt8} {f : Nat} {M : List SpanV} (h : DInv l (l.length + 1) f M) : readD (pieces 44 l) = some (M.map SpanV.two) := by
  rcases h with ⟨h1, _⟩ | ⟨_, h⟩
  · omega
  · exact rinvD_end h
theorem readD_ok {ws : List (List UInt8)} {L : List SpanV} (h : readD ws = some (L.map SpanV.two)) : readL ws = some (L.map SpanV.two) := readD_L h
theorem spOf_cells2 (M : List SpanV) {p : Nat × Nat} {x y : Int} (h : p.1 ≤ p.2 ∧ p.2 < 4294967296) (hx : x = p.1) (hy : y = p.2) : scells (M ++ [spOf p]) = scells M ++ [.int .u32 x, .int .u32 y] := by
  obtain ⟨a, b⟩ := p
  subst hx hy
  exact spOf_cells M h
set_option maxRecDepth 100000 in
set_option maxHeartbeats 4000000 in
theorem refSpParse_any (s : ByteArray) (w : World) (hE : Env w) (hlim : s.size < 900000) :
    Calls Tryz.prog 27 #[.string s] w fun e w' => ∃ v, e = .returned (.tuple #[v, .int .i64 (setE s.data.toList)]) ∧ w'.ownsRow w.heap.size 27 2 v (setL s.data.toList).length (scells (setL s.data.toList)) ∧ Below w.heap.size w w' := by
  obtain ⟨i0, hi, hz0, hz1, hz2⟩ := info_parts Tryz.infoSpan
  have HS := Lib.hid (show s.size = s.data.toList.length from (Array.length_toList).symm)
  have t9 := Tryz.underlying9
  have HQ := Lib.hid (show ∀ (i : Nat) (h : i < s.size), Hid (s.data.toList[i]? = some (s[i]'h)) from fun i h => Lib.hid (by
    rw [Array.getElem?_toList]
    exact Array.getElem?_eq_getElem (xs := s.data) (i := i) h))
  by_cases hd : s.data.toList = [45]
  · have hz := set_some (s := s.data.toList) (L := []) (by rw [hd]; exact setP_dash)
    have HZ := Lib.hid hz
    have he : (s.toList == [45]) = true := by rw [list_of, hd]; rfl
    clear hz hd HS HQ
    go_enter Tryz.func27, Tryz.ntmps27
    go_wp2
    go_ret2
    refine ⟨_, by rw [HZ.out.2]; rfl, ?_, Below.refl _ _⟩
    rw [HZ.out.1]; exact owns_nil _ _ _ _
  · have he : (s.toList == [45]) = false := by rw [list_of]; simpa using hd
    have HD := Lib.hid hd
    clear hd
    go_enter Tryz.func27, Tryz.ntmps27
    go_wp2
    go_loopw [4, 5, 6] (fun v fr i wr => ∃ (k f : Nat) (M : List SpanV), i = .int .i64 k ∧ fr = .int .i64 f ∧ wr.ownsRow w.heap.size 27 2 v M.length (scells M) ∧ Hid (DInv s.data.toList k f M) ∧ f ≤ k ∧ k ≤ s.size + 1 ∧ M.length ≤ k ∧ Below w.heap.size w wr) (fun _ _ i _ => s.size + 1 - (intOf i).toNat)
    case atStart => exact ⟨0, 0, [], rfl, rfl, World.ownsRow_nil _ _ _ _, Lib.hid (dinv_start _), by omega, by omega, by simp, Below.refl _ _⟩
    case round =>
      obtain ⟨k, f, M, rfl, rfl, hown, hp, hf, hk, hMk, hnx⟩ := hrel
      have hsz := hnx.size
      have hEr := hE.below hnx
      by_cases hlt : k < s.size
      · have hI3 : (k : Int) < (s.size : Int) := by omega
        have hI4 : (0 : Int) ≤ k := by omega
        have hI5 : (k : Int) ≤ (s.size : Int) := by omega
        have hx := HQ.out k hlt
        obtain ⟨v, hv⟩ : ∃ v : Int, ((s[k]'hlt).toNat : Int) = v := ⟨_, rfl⟩
        by_cases h44 : s[k]'hlt = 44
        · have hv2 : (v != 44) = false := by rw [← hv, h44]; rfl
          have hw := Lib.hid (dinv_word (b := s.extract f k) hp.out (by rw [hx.out, h44]) (by rw [Lib.extract_data]))
          have HK := Lib.hid (show k < s.data.toList.length by rw [← HS.out]; exact hlt)
          have hS := Lib.hid (span02_any (s.extract f k) wr hEr (by rw [ByteArray.size_extract]; omega))
          clear h44 hx hp
          go_wp2_with fail
          refine hS.out.mono ?_
          rintro e w2 ⟨⟨x, y, rfl, g0, g1, g2, g3, g4⟩, hb⟩
          have hnx2 := hnx.trans (hb.mono hsz)
          have hown2 := owns_kept_none hown (only_of_below hb none)
          have sz2 := hnx2.size
          have hbA := below1 w2 (.cells #[.int .u32 x, .int .u32 y] 27)
          have hnxA := hnx2.trans (hbA.mono sz2)
          have hownA := owns_kept_none hown2 (only_of_below hbA none)
          have szA := hnxA.size
          obtain ⟨x0, x1, _, _⟩ := two_cells (heap_alloc_new w2 (.cells #[.int .u32 x, .int .u32 y] 27))
          clear hbA
          clear hb hnx hown hS hEr
          cases hq : wordD (s.extract f k).data.toList with
          | none =>
            have hz := Lib.hid (set_none (setP_badD HD.out (rinvD_bad hw.out hq)))
            clear g4 hq hw
            go_wp2
            go_ret2
            refine ⟨_, by rw [hz.out.2]; rfl, ?_, hnxA⟩
            rw [hz.out.1]
            exact owns_nil _ _ _ _
          | some p =>
            obtain ⟨hx1, hy1⟩ := g4 p hq
            have hcl := Lib.hid (spOf_cells2 M (wordO_ok (wordD_O hq)) hx1 hy1)
            have hRn := Lib.hid (dinv_next HK.out (rinvD_next hw.out hq))
            clear g4 hq hw hx1 hy1
            go_wp2_with (at_builtin; refine wpList_push rfl _ _ 59 rfl 27 i0 _ 2 8 Tryz.underlying59 hi hz0 hz1 hz2 rfl (by decide) (by decide) [.int .u32 x, .int .u32 y] rfl rfl (by simp) hownA rfl (pair_one x y) (by omega) (by omega) hnxA (Nat.le_refl _) ?_; intro v2 w5 hown5 hb5)
            refine ⟨⟨k + 1, k + 1, M ++ [spOf p], by go_num, by go_num, ?_, hRn, by omega, by omega, by simp; omega, hb5⟩, by simp only [intOf]; omega⟩
            rw [hcl.out, List.length_append]
            exact hown5
        · have hv2 : (v != 44) = true := by
            simp
            intro h
            apply h44
            apply UInt8.toNat_inj.1
            have : (44 : UInt8).toNat = 44 := rfl
            omega
          have hskip := Lib.hid (dinv_skip hp.out hx.out h44)
          clear h44 hx hp
          go_wp2
          exact ⟨⟨k + 1, f, M, by go_num, rfl, hown, hskip, by omega, by omega, by omega, hnx⟩, by simp only [intOf]; omega⟩
      · by_cases heq : k = s.size
        · subst heq
          have hI3 : ¬ (s.size : Int) < (s.size : Int) := by omega
          have hI5 : (s.size : Int) ≤ (s.size : Int) := by omega
          have hw := Lib.hid (dinv_last (b := s.extract f s.size) (by have h := hp.out; rw [HS.out] at h; exact h) (by rw [Lib.extract_data, HS.out]))
          have hS := Lib.hid (span02_any (s.extract f s.size) wr hEr (by rw [ByteArray.size_extract]; omega))
          clear hp hlt
          go_wp2_with fail
          refine hS.out.mono ?_
          rintro e w2 ⟨⟨x, y, rfl, g0, g1, g2, g3, g4⟩, hb⟩
          have hnx2 := hnx.trans (hb.mono hsz)
          have hown2 := owns_kept_none hown (only_of_below hb none)
          have sz2 := hnx2.size
          have hbA := below1 w2 (.cells #[.int .u32 x, .int .u32 y] 27)
          have hnxA := hnx2.trans (hbA.mono sz2)
          have hownA := owns_kept_none hown2 (only_of_below hbA none)
          have szA := hnxA.size
          obtain ⟨x0, x1, _, _⟩ := two_cells (heap_alloc_new w2 (.cells #[.int .u32 x, .int .u32 y] 27))
          clear hbA
          clear hb hnx hown hS hEr
          cases hq : wordD (s.extract f s.size).data.toList with
          | none =>
            have hz := Lib.hid (set_none (setP_badD HD.out (rinvD_bad hw.out hq)))
            clear g4 hq hw
            go_wp2
            go_ret2
            refine ⟨_, by rw [hz.out.2]; rfl, ?_, hnxA⟩
            rw [hz.out.1]
            exact owns_nil _ _ _ _
          | some p =>
            obtain ⟨hx1, hy1⟩ := g4 p hq
            have hcl := Lib.hid (spOf_cells2 M (wordO_ok (wordD_O hq)) hx1 hy1)
            have hRn := Lib.hid (show DInv s.data.toList (s.size + 1) (s.size + 1) (M ++ [spOf p]) by have h := dinv_end (rinvD_next hw.out hq); rw [← HS.out] at h; exact h)
            clear g4 hq hw hx1 hy1
            go_wp2_with (at_builtin; refine wpList_push rfl _ _ 59 rfl 27 i0 _ 2 8 Tryz.underlying59 hi hz0 hz1 hz2 rfl (by decide) (by decide) [.int .u32 x, .int .u32 y] rfl rfl (by simp) hownA rfl (pair_one x y) (by omega) (by omega) hnxA (Nat.le_refl _) ?_; intro v2 w5 hown5 hb5)
            refine ⟨⟨s.size + 1, s.size + 1, M ++ [spOf p], by go_num, by go_num, ?_, hRn, by omega, by omega, by simp; omega, hb5⟩, by simp only [intOf]; omega⟩
            rw [hcl.out, List.length_append]
            exact hown5
        · obtain rfl : k = s.size + 1 := by omega
          have hI5 : ¬ ((s.size + 1 : Nat) : Int) ≤ (s.size : Int) := by omega
          have hrd := readD_ok (dinv_done (by have h := hp.out; rw [HS.out] at h; exact h))
          have hok := read_ok hrd
          have HRD := Lib.hid hrd
          have HOK := Lib.hid hok
          have hT := Lib.hid (refSpText_any M _ wr hEr (Rd.of_own hown) (by omega))
          have hFM := Lib.hid (fun W (hb : Below wr.heap.size wr W) => refForm_any M _ W (((Rd.of_own hown).below hb).mono hb.size) (by omega))
          clear hp hlt heq hrd hok
          by_cases heq : setT (formOf M) = s.data.toList
          · have hsp := setP_yes HD.out HRD.out HOK.out heq
            have hz := Lib.hid (set_some hsp)
            have hfo := Lib.hid (setP_form hsp).1
            have hq : ((⟨(setT (formOf M)).toArray⟩ : ByteArray).toList == s.toList) = true := by rw [list_of, list_of]; simp [heq]
            generalize (⟨(setT (formOf M)).toArray⟩ : ByteArray) = q at *
            clear heq hsp
            go_wp2_with fail
            refine hT.out.mono ?_
            rintro e w2 ⟨rfl, hb⟩
            have hnx2 := hnx.trans (hb.mono hnx.size)
            go_wp2_with fail
            refine (show Calls _ _ _ _ (SetRes (formOf M) w2) from hFM.out w2 hb).mono ?_
            rintro e w3 ⟨v3, rfl, hown3, hb3⟩
            rw [hfo.out] at hown3
            have hnx3 := hnx2.trans (hb3.mono hnx2.size)
            go_wp2
            go_ret2
            refine ⟨_, by rw [hz.out.2]; rfl, ?_, hnx3⟩
            rw [hz.out.1]
            exact owns_base hown3 hnx2.size
          · have hz := Lib.hid (set_none (setP_ne HD.out HRD.out HOK.out heq))
            have hq : ((⟨(setT (formOf M)).toArray⟩ : ByteArray).toList == s.toList) = false := by rw [list_of, list_of]; simpa using heq
            generalize (⟨(setT (formOf M)).toArray⟩ : ByteArray) = q at *
            clear heq
            go_wp2_with fail
            refine hT.out.mono ?_
            rintro e w2 ⟨rfl, hb⟩
            have hnx2 := hnx.trans (hb.mono hnx.size)
            go_wp2
            go_ret2
            refine ⟨_, by rw [hz.out.2]; rfl, ?_, hnx2⟩
            rw [hz.out.1]
            exact owns_nil _ _ _ _
end Go.Proofs.YtmgeknghgngliaaGreatDoor
