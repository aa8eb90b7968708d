/-
  Lists of routes: their cells, and held against each other (written by wip/gen/genro5.py).
-/
import Derived.Test.YtlhafehhkjjchaaRo4
import Derived.Test.YtlhafehhkjjchaaSp2
namespace Go.Proofs.Ytlhafehhkjjchaa
open Go Go.RowKit Go.Lib Go.Sort

theorem Try.infoRoute : (Try.prog.info? 28).map (fun i => (i.zero, i.size, i.bytes)) = some (some (.agg #[.int .u32 0, .int .i64 0, .int .u8 0, .int .i64 0, .int .i64 0, .int .i64 0, .string ByteArray.empty, .int .u32 0, .bool false]), 9, 72) := by kernel_rfl
def rvcells (L : List RouteV) : List Value := L.flatMap RouteV.enc
theorem rvcell {L : List RouteV} {k i : Nat} {x : RouteV} {v : Value} (hr : L[k]? = some x) (hv : x.enc[i]? = some v) : (rvcells L)[k * 9 + i]? = some v := flat_get RouteV.enc 9 route_len L k i x v hr hv
theorem renc_one (r : RouteV) : ∀ u ∈ r.enc, u.oneCell' = true := by
  intro u hu
  simp only [RouteV.enc, List.mem_cons, List.not_mem_nil, or_false] at hu
  rcases hu with rfl | rfl | rfl | rfl | rfl | rfl | rfl | rfl | rfl <;> rfl
theorem rvcells_one (L : List RouteV) : ∀ u ∈ rvcells L, u.oneCell' = true := by
  intro u hu
  obtain ⟨r, _, hr⟩ := List.mem_flatMap.1 hu
  exact renc_one r u hr
theorem rvcells_len (L : List RouteV) : (rvcells L).length = L.length * 9 := flat_len RouteV.enc 9 route_len L
theorem rvcells_append (A B : List RouteV) : rvcells (A ++ B) = rvcells A ++ rvcells B := by simp [rvcells]
theorem rvcells_snoc (A : List RouteV) (s : RouteV) : rvcells (A ++ [s]) = rvcells A ++ s.enc := by simp [rvcells]
theorem rlist_eq_of {A B : List RouteV} (h : A.length = B.length) (h2 : ∀ (i : Nat) (s t : RouteV), A[i]? = some s → B[i]? = some t → s = t) : A = B := by
  apply List.ext_getElem?
  intro i
  by_cases hi : i < A.length
  · have ha := List.getElem?_eq_getElem hi
    have hb := List.getElem?_eq_getElem (l := B) (i := i) (by omega)
    rw [ha, hb, h2 i _ _ ha hb]
  · rw [List.getElem?_eq_none (by omega), List.getElem?_eq_none (by omega)]
/-- Are two lists of routes the same? -/
def eqRB (A B : List RouteV) : Bool := decide (A = B)
theorem eqRB_self (A : List RouteV) : eqRB A A = true := by simp [eqRB]
theorem eqRB_ne {A B : List RouteV} (h : A ≠ B) : eqRB A B = false := by simp [eqRB, h]
set_option maxRecDepth 100000 in
set_option maxHeartbeats 4000000 in
theorem refSameR_any (A B : List RouteV) (va vb : Value) (w : World) (ha : Rd w w.heap.size 9 va A.length (rvcells A)) (hb : Rd w w.heap.size 9 vb B.length (rvcells B)) (hla : A.length ≤ 1099511627776) :
    Calls Try.prog 9 #[va, vb] w fun e w' => e = .returned (.bool (eqRB A B)) ∧ Below w.heap.size w w' := by
  obtain ⟨Aa, ca, rfl, _⟩ := ha.form
  obtain ⟨Ab, cb, rfl, _⟩ := hb.form
  have HA := Lib.hid ha
  have HB := Lib.hid hb
  clear ha hb
  go_enter Try.func9, Try.ntmps9
  by_cases hlen : A.length = B.length
  · have HLEN := Lib.hid hlen
    have hne : ((A.length : Int) != (B.length : Int)) = false := by simp [hlen]
    clear hlen
    go_wp2
    go_loopw [5] (fun i wr => ∃ j : Nat, i = .int .i64 j ∧ j ≤ A.length ∧ Hid (∀ (i : Nat) (s t : RouteV), i < j → A[i]? = some s → B[i]? = some t → s = t) ∧ Below w.heap.size w wr) (fun i _ => A.length - (intOf i).toNat)
    case atStart => exact ⟨0, rfl, by omega, (by intro i s t hi; omega : ∀ (i : Nat) (s t : RouteV), i < 0 → A[i]? = some s → B[i]? = some t → s = t), Below.refl _ _⟩
    case round =>
      obtain ⟨j, rfl, hj, hsm, hnx⟩ := hrel
      have hsz := hnx.size
      by_cases hlt : j < A.length
      · have hI : (j : Int) < (A.length : Int) := by omega
        have hlt2 : j < B.length := by have := HLEN.out; omega
        have hI2 : (j : Int) < (B.length : Int) := by omega
        obtain ⟨s, hs⟩ : ∃ s, A[j]? = some s := ⟨_, List.getElem?_eq_getElem hlt⟩
        obtain ⟨t, ht⟩ : ∃ t, B[j]? = some t := ⟨_, List.getElem?_eq_getElem hlt2⟩
        obtain ⟨b, off, c', hv, _, hbB, hcell⟩ := (HA.out.below hnx).posAt (by omega)
        injection hv with hv1 _ hv3
        subst hv1 hv3
        obtain ⟨b2, off2, c2', hv, _, hbB2, hcell2⟩ := (HB.out.below hnx).posAt (by omega)
        injection hv with hv1 _ hv3
        subst hv1 hv3
        have f0 : wr.cell? ⟨b, off + j * 9, none⟩ = some (.int .u32 s.a) := hcell j 0 _ (rvcell hs rfl)
        have f1 : wr.cell? ⟨b, off + j * 9 + 1, none⟩ = some (.int .i64 s.m) := hcell j 1 _ (rvcell hs rfl)
        have f2 : wr.cell? ⟨b, off + j * 9 + 2, none⟩ = some (.int .u8 s.fr) := hcell j 2 _ (rvcell hs rfl)
        have f3 : wr.cell? ⟨b, off + j * 9 + 3, none⟩ = some (.int .i64 s.di) := hcell j 3 _ (rvcell hs rfl)
        have f4 : wr.cell? ⟨b, off + j * 9 + 4, none⟩ = some (.int .i64 s.me) := hcell j 4 _ (rvcell hs rfl)
        have f5 : wr.cell? ⟨b, off + j * 9 + 5, none⟩ = some (.int .i64 s.ta) := hcell j 5 _ (rvcell hs rfl)
        have f6 : wr.cell? ⟨b, off + j * 9 + 6, none⟩ = some (.string s.nm) := hcell j 6 _ (rvcell hs rfl)
        have f7 : wr.cell? ⟨b, off + j * 9 + 7, none⟩ = some (.int .u32 s.ho) := hcell j 7 _ (rvcell hs rfl)
        have f8 : wr.cell? ⟨b, off + j * 9 + 8, none⟩ = some (.bool s.dc) := hcell j 8 _ (rvcell hs rfl)
        have e0 : wr.cell? ⟨b2, off2 + j * 9, none⟩ = some (.int .u32 t.a) := hcell2 j 0 _ (rvcell ht rfl)
        have e1 : wr.cell? ⟨b2, off2 + j * 9 + 1, none⟩ = some (.int .i64 t.m) := hcell2 j 1 _ (rvcell ht rfl)
        have e2 : wr.cell? ⟨b2, off2 + j * 9 + 2, none⟩ = some (.int .u8 t.fr) := hcell2 j 2 _ (rvcell ht rfl)
        have e3 : wr.cell? ⟨b2, off2 + j * 9 + 3, none⟩ = some (.int .i64 t.di) := hcell2 j 3 _ (rvcell ht rfl)
        have e4 : wr.cell? ⟨b2, off2 + j * 9 + 4, none⟩ = some (.int .i64 t.me) := hcell2 j 4 _ (rvcell ht rfl)
        have e5 : wr.cell? ⟨b2, off2 + j * 9 + 5, none⟩ = some (.int .i64 t.ta) := hcell2 j 5 _ (rvcell ht rfl)
        have e6 : wr.cell? ⟨b2, off2 + j * 9 + 6, none⟩ = some (.string t.nm) := hcell2 j 6 _ (rvcell ht rfl)
        have e7 : wr.cell? ⟨b2, off2 + j * 9 + 7, none⟩ = some (.int .u32 t.ho) := hcell2 j 7 _ (rvcell ht rfl)
        have e8 : wr.cell? ⟨b2, off2 + j * 9 + 8, none⟩ = some (.bool t.dc) := hcell2 j 8 _ (rvcell ht rfl)
        have F0 := cell_regrown f0
        have E0 := cell_regrown e0
        have F1 := cell_regrown f1
        have E1 := cell_regrown e1
        have F2 := cell_regrown f2
        have E2 := cell_regrown e2
        have F3 := cell_regrown f3
        have E3 := cell_regrown e3
        have F4 := cell_regrown f4
        have E4 := cell_regrown e4
        have F5 := cell_regrown f5
        have E5 := cell_regrown e5
        have F6 := cell_regrown f6
        have E6 := cell_regrown e6
        have F7 := cell_regrown f7
        have E7 := cell_regrown e7
        have F8 := cell_regrown f8
        have E8 := cell_regrown e8
        have HS := Lib.hid hs
        have HT := Lib.hid ht
        clear hcell hcell2 hs ht f0 e0 f1 e1 f2 e2 f3 e3 f4 e4 f5 e5 f6 e6 f7 e7 f8 e8
        by_cases hc : s = t
        · have HC := Lib.hid hc
          have hneq := fun W => neqR_same hc W
          clear hc
          go_wp2
          refine wp_region_quiet_below (by kernel_rfl) (by kernel_rfl) ?_
          repeat (first | go_big_quiet_step (fail) | quiet_step (fail))
          refine wpQuiet_nil ?_
          intro _ hw'
          obtain ⟨⟨nq, osq⟩, hw''⟩ := hw'
          subst hw''
          have hq := below_regrown wr nq osq
          go_wp2
          refine ⟨⟨j + 1, by go_num, by omega, ?_, hnx.trans (hq.mono hsz)⟩, by simp only [intOf]; omega⟩
          intro i u v hi hu hv
          rcases Nat.lt_or_ge i j with h | h
          · exact hsm.out i u v h hu hv
          · obtain rfl : i = j := by omega
            rw [HS.out] at hu
            rw [HT.out] at hv
            injection hu with hu
            injection hv with hv
            rw [← hu, ← hv]; exact HC.out
        · have HC := Lib.hid hc
          have hneq := fun W => neqR_not hc W
          clear hc
          go_wp2
          refine wp_region_quiet_below (by kernel_rfl) (by kernel_rfl) ?_
          repeat (first | go_big_quiet_step (fail) | quiet_step (fail))
          refine wpQuiet_nil ?_
          intro _ hw'
          obtain ⟨⟨nq, osq⟩, hw''⟩ := hw'
          subst hw''
          have hq := below_regrown wr nq osq
          go_wp2
          go_ret
          refine ⟨ret_bool (eqRB_ne (fun h => ?_)).symm, hnx.trans (hq.mono hsz)⟩
          have h1 := HS.out
          rw [h, HT.out] at h1
          injection h1 with h1
          exact HC.out h1.symm
      · obtain rfl : j = A.length := by omega
        go_wp2
        go_ret
        refine ⟨ret_bool ?_, hnx⟩
        have : A = B := rlist_eq_of HLEN.out (fun i s t h1 h2 => hsm.out i s t (List.getElem?_eq_some_iff.1 h1).1 h1 h2)
        rw [this, eqRB_self]
  · have hne : ((A.length : Int) != (B.length : Int)) = true := by simp; omega
    have HLEN := Lib.hid hlen
    clear hlen
    go_wp2
    go_ret
    exact ⟨ret_bool (eqRB_ne (fun h => HLEN.out (by rw [h]))).symm, Below.refl _ _⟩

set_option maxRecDepth 100000 in
set_option maxHeartbeats 4000000 in
theorem equalR_any (A B : List RouteV) (va vb : Value) (w : World) (ha : Rd w w.heap.size 9 va A.length (rvcells A)) (hb : Rd w w.heap.size 9 vb B.length (rvcells B)) (hla : A.length ≤ 1099511627776) :
    Calls Try.prog 28 #[va, vb] w fun e w' => e = .returned (.bool (eqRB A B)) ∧ Below w.heap.size w w' := by
  obtain ⟨Aa, ca, rfl, _⟩ := ha.form
  obtain ⟨Ab, cb, rfl, _⟩ := hb.form
  have HA := Lib.hid ha
  have HB := Lib.hid hb
  clear ha hb
  go_enter Try.func28, Try.ntmps28
  by_cases hlen : A.length = B.length
  · have HLEN := Lib.hid hlen
    have hne : ((A.length : Int) != (B.length : Int)) = false := by simp [hlen]
    clear hlen
    go_wp2
    go_loopw [13] (fun i wr => ∃ j : Nat, i = .int .i64 j ∧ j ≤ A.length ∧ Hid (∀ (i : Nat) (s t : RouteV), i < j → A[i]? = some s → B[i]? = some t → s = t) ∧ Below w.heap.size w wr) (fun i _ => A.length - (intOf i).toNat)
    case atStart => exact ⟨0, rfl, by omega, (by intro i s t hi; omega : ∀ (i : Nat) (s t : RouteV), i < 0 → A[i]? = some s → B[i]? = some t → s = t), Below.refl _ _⟩
    case round =>
      obtain ⟨j, rfl, hj, hsm, hnx⟩ := hrel
      have hsz := hnx.size
      by_cases hlt : j < A.length
      · have hI : (j : Int) < (A.length : Int) := by omega
        have hlt2 : j < B.length := by have := HLEN.out; omega
        have hI2 : (j : Int) < (B.length : Int) := by omega
        obtain ⟨s, hs⟩ : ∃ s, A[j]? = some s := ⟨_, List.getElem?_eq_getElem hlt⟩
        obtain ⟨t, ht⟩ : ∃ t, B[j]? = some t := ⟨_, List.getElem?_eq_getElem hlt2⟩
        obtain ⟨b, off, c', hv, _, hbB, hcell⟩ := (HA.out.below hnx).posAt (by omega)
        injection hv with hv1 _ hv3
        subst hv1 hv3
        obtain ⟨b2, off2, c2', hv, _, hbB2, hcell2⟩ := (HB.out.below hnx).posAt (by omega)
        injection hv with hv1 _ hv3
        subst hv1 hv3
        have f0 : wr.cell? ⟨b, off + j * 9, none⟩ = some (.int .u32 s.a) := hcell j 0 _ (rvcell hs rfl)
        have f1 : wr.cell? ⟨b, off + j * 9 + 1, none⟩ = some (.int .i64 s.m) := hcell j 1 _ (rvcell hs rfl)
        have f2 : wr.cell? ⟨b, off + j * 9 + 2, none⟩ = some (.int .u8 s.fr) := hcell j 2 _ (rvcell hs rfl)
        have f3 : wr.cell? ⟨b, off + j * 9 + 3, none⟩ = some (.int .i64 s.di) := hcell j 3 _ (rvcell hs rfl)
        have f4 : wr.cell? ⟨b, off + j * 9 + 4, none⟩ = some (.int .i64 s.me) := hcell j 4 _ (rvcell hs rfl)
        have f5 : wr.cell? ⟨b, off + j * 9 + 5, none⟩ = some (.int .i64 s.ta) := hcell j 5 _ (rvcell hs rfl)
        have f6 : wr.cell? ⟨b, off + j * 9 + 6, none⟩ = some (.string s.nm) := hcell j 6 _ (rvcell hs rfl)
        have f7 : wr.cell? ⟨b, off + j * 9 + 7, none⟩ = some (.int .u32 s.ho) := hcell j 7 _ (rvcell hs rfl)
        have f8 : wr.cell? ⟨b, off + j * 9 + 8, none⟩ = some (.bool s.dc) := hcell j 8 _ (rvcell hs rfl)
        have e0 : wr.cell? ⟨b2, off2 + j * 9, none⟩ = some (.int .u32 t.a) := hcell2 j 0 _ (rvcell ht rfl)
        have e1 : wr.cell? ⟨b2, off2 + j * 9 + 1, none⟩ = some (.int .i64 t.m) := hcell2 j 1 _ (rvcell ht rfl)
        have e2 : wr.cell? ⟨b2, off2 + j * 9 + 2, none⟩ = some (.int .u8 t.fr) := hcell2 j 2 _ (rvcell ht rfl)
        have e3 : wr.cell? ⟨b2, off2 + j * 9 + 3, none⟩ = some (.int .i64 t.di) := hcell2 j 3 _ (rvcell ht rfl)
        have e4 : wr.cell? ⟨b2, off2 + j * 9 + 4, none⟩ = some (.int .i64 t.me) := hcell2 j 4 _ (rvcell ht rfl)
        have e5 : wr.cell? ⟨b2, off2 + j * 9 + 5, none⟩ = some (.int .i64 t.ta) := hcell2 j 5 _ (rvcell ht rfl)
        have e6 : wr.cell? ⟨b2, off2 + j * 9 + 6, none⟩ = some (.string t.nm) := hcell2 j 6 _ (rvcell ht rfl)
        have e7 : wr.cell? ⟨b2, off2 + j * 9 + 7, none⟩ = some (.int .u32 t.ho) := hcell2 j 7 _ (rvcell ht rfl)
        have e8 : wr.cell? ⟨b2, off2 + j * 9 + 8, none⟩ = some (.bool t.dc) := hcell2 j 8 _ (rvcell ht rfl)
        have F0 := cell_regrown f0
        have E0 := cell_regrown e0
        have F1 := cell_regrown f1
        have E1 := cell_regrown e1
        have F2 := cell_regrown f2
        have E2 := cell_regrown e2
        have F3 := cell_regrown f3
        have E3 := cell_regrown e3
        have F4 := cell_regrown f4
        have E4 := cell_regrown e4
        have F5 := cell_regrown f5
        have E5 := cell_regrown e5
        have F6 := cell_regrown f6
        have E6 := cell_regrown e6
        have F7 := cell_regrown f7
        have E7 := cell_regrown e7
        have F8 := cell_regrown f8
        have E8 := cell_regrown e8
        have HS := Lib.hid hs
        have HT := Lib.hid ht
        clear hcell hcell2 hs ht f0 e0 f1 e1 f2 e2 f3 e3 f4 e4 f5 e5 f6 e6 f7 e7 f8 e8
        by_cases hc : s = t
        · have HC := Lib.hid hc
          have hneq := fun W => neqR_same hc W
          clear hc
          go_wp2
          refine wp_region_quiet_below (by kernel_rfl) (by kernel_rfl) ?_
          repeat (first | go_big_quiet_step (fail) | quiet_step (fail))
          refine wpQuiet_nil ?_
          intro _ hw'
          obtain ⟨⟨nq, osq⟩, hw''⟩ := hw'
          subst hw''
          have hq := below_regrown wr nq osq
          go_wp2
          refine ⟨⟨j + 1, by go_num, by omega, ?_, hnx.trans (hq.mono hsz)⟩, by simp only [intOf]; omega⟩
          intro i u v hi hu hv
          rcases Nat.lt_or_ge i j with h | h
          · exact hsm.out i u v h hu hv
          · obtain rfl : i = j := by omega
            rw [HS.out] at hu
            rw [HT.out] at hv
            injection hu with hu
            injection hv with hv
            rw [← hu, ← hv]; exact HC.out
        · have HC := Lib.hid hc
          have hneq := fun W => neqR_not hc W
          clear hc
          go_wp2
          refine wp_region_quiet_below (by kernel_rfl) (by kernel_rfl) ?_
          repeat (first | go_big_quiet_step (fail) | quiet_step (fail))
          refine wpQuiet_nil ?_
          intro _ hw'
          obtain ⟨⟨nq, osq⟩, hw''⟩ := hw'
          subst hw''
          have hq := below_regrown wr nq osq
          go_wp2
          go_ret
          refine ⟨ret_bool (eqRB_ne (fun h => ?_)).symm, hnx.trans (hq.mono hsz)⟩
          have h1 := HS.out
          rw [h, HT.out] at h1
          injection h1 with h1
          exact HC.out h1.symm
      · obtain rfl : j = A.length := by omega
        go_wp2
        go_ret
        refine ⟨ret_bool ?_, hnx⟩
        have : A = B := rlist_eq_of HLEN.out (fun i s t h1 h2 => hsm.out i s t (List.getElem?_eq_some_iff.1 h1).1 h1 h2)
        rw [this, eqRB_self]
  · have hne : ((A.length : Int) != (B.length : Int)) = true := by simp; omega
    have HLEN := Lib.hid hlen
    clear hlen
    go_wp2
    go_ret
    exact ⟨ret_bool (eqRB_ne (fun h => HLEN.out (by rw [h]))).symm, Below.refl _ _⟩

theorem sameR_any (A B : List RouteV) (va vb : Value) (w : World) (ha : Rd w w.heap.size 9 va A.length (rvcells A)) (hb : Rd w w.heap.size 9 vb B.length (rvcells B)) (hla : A.length ≤ 1099511627776) :
    Calls Try.prog 10 #[va, vb] w fun e w' => e = .returned (.bool (eqRB A B)) ∧ Below w.heap.size w w' := by
  have H := Lib.hid (equalR_any A B va vb w ha hb hla)
  go_enter Try.func10, Try.ntmps10
  go_wp2_with fail
  refine H.out.mono ?_
  rintro e w' ⟨rfl, hb2⟩
  go_wp2
  go_ret
  exact ⟨rfl, hb2⟩
end Go.Proofs.Ytlhafehhkjjchaa
