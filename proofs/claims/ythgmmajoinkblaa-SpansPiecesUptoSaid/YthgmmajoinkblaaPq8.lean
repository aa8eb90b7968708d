/-
  slices.Compact at a row of the call's own, numbers of 32 bits.
-/
import Derived.Test.YthgmmajoinkblaaPq7
import Derived.Test.YthgmmajoinkblaaRowS
namespace Go.Proofs.Ythgmmajoinkblaa
open Go Go.RowKit Go.Lib Go.Sort

/-- What is left of the first n numbers, runs of equals being one. -/
def ddU (d : List Int) : Nat → List Int
  | 0 => []
  | n + 1 => if n ≠ 0 ∧ d[n]? = d[n - 1]? then ddU d n else ddU d n ++ (d[n]?).toList
theorem ddU_len (d : List Int) : ∀ n, (ddU d n).length ≤ n
  | 0 => Nat.le_refl _
  | n + 1 => by
    have := ddU_len d n
    unfold ddU
    split
    · omega
    · cases d[n]? <;> simp <;> omega
theorem ddU_same {d : List Int} {n : Nat} (h : n ≠ 0) (he : d[n]? = d[n - 1]?) : ddU d (n + 1) = ddU d n := by rw [ddU, if_pos ⟨h, he⟩]
theorem ddU_new {d : List Int} {n : Nat} {x : Int} (hx : d[n]? = some x) (he : n ≠ 0 → d[n]? ≠ d[n - 1]?) : ddU d (n + 1) = ddU d n ++ [x] := by
  rw [ddU, if_neg (fun h => he h.1 h.2), hx]; rfl
theorem ddU_all {d : List Int} : ∀ {k : Nat}, k ≤ d.length → (∀ i, 1 ≤ i → i < k → d[i]? ≠ d[i - 1]?) → ddU d k = d.take k
  | 0, _, _ => by simp [ddU]
  | k + 1, hk, h => by
    have hx := List.getElem?_eq_getElem (l := d) (i := k) (by omega)
    rw [ddU_new hx (fun h0 => h k (by omega) (by omega)), ddU_all (by omega) (fun i h1 h2 => h i h1 (by omega)), List.take_add_one, hx]
    rfl
theorem ddU_sorted {d : List Int} (hd : d.Pairwise (· ≤ ·)) : ∀ n, n ≤ d.length → (ddU d n).Pairwise (· < ·) ∧ ∀ x, x ∈ ddU d n ↔ x ∈ d.take n
  | 0, _ => ⟨List.Pairwise.nil, fun x => by simp [ddU]⟩
  | n + 1, hn => by
    obtain ⟨h1, h2⟩ := ddU_sorted hd n (by omega)
    obtain ⟨x, hx⟩ : ∃ x, d[n]? = some x := ⟨_, List.getElem?_eq_getElem (by omega)⟩
    have hx' := List.getElem?_eq_some_iff.1 hx
    have htk : d.take (n + 1) = d.take n ++ [x] := by rw [List.take_add_one, hx]; rfl
    by_cases he : n ≠ 0 ∧ d[n]? = d[n - 1]?
    · rw [ddU_same he.1 he.2]
      refine ⟨h1, fun y => ?_⟩
      rw [h2, htk, List.mem_append, List.mem_singleton]
      constructor
      · exact .inl
      · rintro (h | rfl)
        · exact h
        · rw [hx] at he
          have h0 := he.1
          exact List.mem_of_getElem? (i := n - 1) (by rw [List.getElem?_take_of_lt (by omega)]; exact he.2.symm)
    · rw [ddU_new hx (fun h0 h3 => he ⟨h0, h3⟩)]
      refine ⟨List.pairwise_append.2 ⟨h1, List.pairwise_singleton _ _, fun y hy z hz => ?_⟩, fun y => ?_⟩
      · rw [List.mem_singleton] at hz
        subst hz
        obtain ⟨i, hi, e⟩ := List.getElem_of_mem ((h2 y).1 hy)
        have hin : i < n := by simp at hi; omega
        rw [List.getElem_take] at e
        obtain ⟨p, hp⟩ : ∃ p, d[n - 1]? = some p := ⟨_, List.getElem?_eq_getElem (by omega)⟩
        have hp' := List.getElem?_eq_some_iff.1 hp
        have hpz : p ≤ z := by
          have := List.pairwise_iff_getElem.1 hd (n - 1) n hp'.1 hx'.1 (by omega)
          rw [hp'.2, hx'.2] at this
          exact this
        have hne : p ≠ z := fun h => he ⟨by omega, by rw [hx, hp, h]⟩
        rcases Nat.eq_or_lt_of_le (show i ≤ n - 1 by omega) with e2 | e2
        · have : y = p := by rw [← e, ← hp'.2]; congr 1
          omega
        · have := List.pairwise_iff_getElem.1 hd i (n - 1) (by omega) hp'.1 e2
          rw [e, hp'.2] at this
          omega
      · rw [htk, List.mem_append, List.mem_append, h2]
theorem takeU_splice {α : Type} {L : List α} {off m : Nat} {cs : List α} (h : off + cs.length ≤ L.length) (hm : m = off + cs.length) : (splice L off cs).take m = L.take off ++ cs := by
  unfold splice
  have e : (L.take off ++ cs).length = m := by rw [List.length_append, List.length_take]; omega
  rw [← List.append_assoc, List.take_left' e]
theorem spliceU_get {α : Type} {L : List α} {off j : Nat} {cs : List α} (h : off + cs.length ≤ L.length) (hj : off + cs.length ≤ j) : (splice L off cs)[j]? = L[j]? := by
  unfold splice
  rw [List.getElem?_append_right (by rw [List.length_take]; omega), List.getElem?_append_right (by rw [List.length_take]; omega), List.getElem?_drop]
  congr 1
  rw [List.length_take]; omega
theorem takeU_low {α : Type} {L : List α} {off m : Nat} {cs : List α} (h : off ≤ L.length) (hm : m = off) : (splice L off cs).take m = L.take off := by
  unfold splice
  subst hm
  rw [List.take_left' (by rw [List.length_take]; omega)]
theorem zeroU_len (n : Nat) : (Builtin.zeroCells (Value.int .u32 0).cells n).toList.length = n := by simp [Builtin.zeroCells, Value.cells]
theorem ucells_snoc (A : List Int) (s : Int) : ucells (A ++ [s]) = ucells A ++ [.int .u32 s] := by simp [ucells]
set_option maxRecDepth 100000 in
set_option maxHeartbeats 8000000 in
theorem compactU_any (d : List Int) (v : Value) (base B : Nat) (w : World) (hown : w.ownsRow base 23 1 v d.length (ucells d)) (hlen : d.length ≤ 549755813888) (hB : B ≤ base) (hB2 : B ≤ w.heap.size) :
    Calls Try.prog 43 #[v] w fun e w' =>
      ∃ v', e = .returned v' ∧ w'.ownsRow base 23 1 v' (ddU d d.length).length (ucells (ddU d d.length)) ∧ Below B w w' := by
  obtain ⟨A, c, rfl, hA⟩ := owns_form hown
  have HO := Lib.hid hown
  clear hown
  go_enter Try.func43, Try.ntmps43
  by_cases h2 : d.length < 2
  · have hI : (d.length : Int) < 2 := by omega
    have hdd : ddU d d.length = d := by rw [ddU_all (Nat.le_refl _) (fun i h1 h3 => by omega), List.take_length]
    go_wp2
    go_ret
    exact ⟨_, rfl, by first | exact HO.out | (rw [hdd]; exact HO.out), Below.refl _ _⟩
  · have hI : ¬ (d.length : Int) < 2 := by omega
    obtain ⟨g, rfl⟩ := hA (by omega)
    have hg : g < w.heap.size := (HO.out.lt g rfl).2
    have hnc : d.length ≤ c := by obtain ⟨cur, _, h, _⟩ := owns_block HO.out; exact h
    go_wp2
    go_loopw [3] (fun i wx => ∃ k : Nat, i = .int .i64 k ∧ 1 ≤ k ∧ k ≤ d.length ∧ Hid (∀ i, 1 ≤ i → i < k → d[i]? ≠ d[i - 1]?) ∧ Hid (Below w.heap.size w wx)) (fun i _ => d.length - (intOf i).toNat)
    case atStart => exact ⟨1, rfl, by omega, by omega, (fun i h1 h3 => absurd h3 (by omega)), Below.refl _ _⟩
    case round =>
      obtain ⟨k, rfl, hk1, hk, HD, HN⟩ := hrel
      rename World => wx
      by_cases hlt : k < d.length
      · have hJ : (k : Int) < (d.length : Int) := by omega
        obtain ⟨x, hx⟩ : ∃ x, d[k]? = some x := ⟨_, List.getElem?_eq_getElem hlt⟩
        obtain ⟨y, hy⟩ : ∃ y, d[k - 1]? = some y := ⟨_, List.getElem?_eq_getElem (by omega)⟩
        have hc1 : ∀ (j : Nat) (z : Int), d[j]? = some z → wx.cell? ⟨g, j, none⟩ = some (.int .u32 z) := fun j z hz => (HN.out.cell (p := ⟨g, j, none⟩) hg).trans ((HO.out.cellAt j (by have := (List.getElem?_eq_some_iff.1 hz).1; omega)).trans (ucell hz))
        have f0 := hc1 k x hx
        have e0 := hc1 (k - 1) y hy
        have F0 := cell_regrown f0
        have E0 := cell_regrown e0
        have HX := Lib.hid hx
        have HY := Lib.hid hy
        clear hc1 hx hy f0 e0
        by_cases he : x = y
        · have hEQ : (x == y) = true := by simp [he]
          have HE := Lib.hid he
          clear he
          go_wp2
          refine wp_region_quiet_below (by kernel_rfl) (by kernel_rfl) ?_
          repeat (first | go_big_quiet_step (fail) | quiet_step (fail))
          refine wpQuiet_nil ?_
          intro _ hw'
          obtain ⟨⟨nq, osq⟩, hw''⟩ := hw'
          subst hw''
          have hq := below_regrown wx nq osq
          have HQ := Lib.hid (HN.out.trans (hq.mono HN.out.size))
          have hown3 := owns_kept_none HO.out (only_of_below HQ.out none)
          obtain ⟨cur0, hg0, _, hcm, hcs, ht0, hbg⟩ := owns_block hown3
          have hm0 : (ddU d (k + 1)).length = k := by
            rw [ddU_same (by omega) (by rw [HX.out, HY.out, HE.out]), ddU_all (by omega) HD.out, List.length_take]; omega
          have hT0 : cur0.toList.take k = ucells (ddU d (k + 1)) := by
            rw [ddU_same (by omega) (by rw [HX.out, HY.out, HE.out]), ddU_all (by omega) HD.out]
            have e2 := congrArg (List.take k) ht0
            rw [List.take_take, show min k (d.length * 1) = k from Nat.min_eq_left (by omega)] at e2
            rw [e2]
            simp [ucells]
          have hC0 : ∀ (j : Nat) (z : Int), k ≤ j → d[j]? = some z → cur0.toList[j]? = some (.int .u32 z) := by
            intro j z _ hz
            have h3 := (List.getElem?_eq_some_iff.1 hz).1
            have h4 := ucell hz
            rw [← ht0, List.getElem?_take_of_lt (by omega)] at h4
            exact h4
          have HT0 := Lib.hid hT0
          have HC0 := Lib.hid hC0
          have HG0 := Lib.hid hg0
          have HB0 := Lib.hid (HQ.out.mono hB2)
          have HM0 := Lib.hid hm0
          have hcl : cur0.toList.length = c := by rw [Array.length_toList, hcs]; omega
          have HCL := Lib.hid hcl
          clear hown3 hg0 ht0 hT0 hC0 hm0 hcl hcs HN HD F0 E0 hEQ HQ
          have hne : ¬ c = k := by omega
          have hkc : (k : Int) ≤ (c : Int) := by omega
          go_wp2
          go_loopw [3, 5] (fun a b wr => ∃ (m q : Nat) (cur : List Value), a = .int .i64 m ∧ b = .int .i64 q ∧ 1 ≤ q ∧ k + q ≤ d.length ∧ m + 1 ≤ k + q ∧ Hid (m = (ddU d (k + q)).length) ∧ Hid (wr.heap[g]? = some (.cells cur.toArray 23 (0, 0))) ∧ Hid (cur.length = c) ∧ Hid (cur.take m = ucells (ddU d (k + q))) ∧ Hid (∀ (j : Nat) (z : Int), k + q - 1 ≤ j → d[j]? = some z → cur[j]? = some (.int .u32 z)) ∧ Hid (Below B w wr)) (fun _ b _ => d.length - (intOf b).toNat)
          case atStart => exact ⟨k, 1, cur0.toList, rfl, rfl, by omega, by omega, by omega, HM0.out.symm, HG0.out, HCL.out, HT0.out, HC0.out, HB0.out⟩
          case round =>
            obtain ⟨m, q, cur, rfl, rfl, hq1, hkq, hmq, HM, HG, HL, HT, HC, HB⟩ := hrel
            rename World => wr
            clear HT0 HC0 HG0 HB0 HM0 HCL
            have hqd : (k : Int) + (q : Int) ≤ (d.length : Int) := by omega
            by_cases hlq : q < d.length - k
            · have hI2 : (q : Int) < ((d.length - k : Nat) : Int) := by omega
              have hI3 : ((q : Int) - 1) < ((d.length - k : Nat) : Int) := by omega
              have hI4 : (m : Int) < (d.length : Int) := by omega
              obtain ⟨x2, hx2⟩ : ∃ x2, d[k + q]? = some x2 := ⟨_, List.getElem?_eq_getElem (by omega)⟩
              obtain ⟨y2, hy2⟩ : ∃ y2, d[k + (q - 1)]? = some y2 := ⟨_, List.getElem?_eq_getElem (by omega)⟩
              have hcr : ∀ (i : Nat) (u : Value), cur[i]? = some u → wr.cell? ⟨g, i, none⟩ = some u := fun i u hu => by rw [cell_of_row wr g i _ _ (0, 0) HG.out]; simpa using hu
              have f0 : wr.cell? ⟨g, k + q, none⟩ = some (.int .u32 x2) := hcr _ _ (HC.out (k + q) x2 (by omega) hx2)
              have e0 : wr.cell? ⟨g, k + (q - 1), none⟩ = some (.int .u32 y2) := hcr _ _ (HC.out (k + (q - 1)) y2 (by omega) hy2)
              have F0 := cell_regrown f0
              have E0 := cell_regrown e0
              have HX2 := Lib.hid hx2
              have HY2 := Lib.hid hy2
              have hgw := lt_of_block HG.out
              clear hcr hx2 hy2 f0 e0
              by_cases he2 : x2 = y2
              · have hEQ : (x2 != y2) = false := by simp [he2]
                have HE2 := Lib.hid he2
                clear he2
                go_wp2
                refine wp_region_quiet_below (by kernel_rfl) (by kernel_rfl) ?_
                repeat (first | go_big_quiet_step (fail) | quiet_step (fail))
                refine wpQuiet_nil ?_
                intro _ hw'
                obtain ⟨⟨nq, osq⟩, hw''⟩ := hw'
                subst hw''
                have hq := below_regrown wr nq osq
                have HQ2 := Lib.hid hq
                clear hq
                have hdd2 : ddU d (k + (q + 1)) = ddU d (k + q) := by
                  refine ddU_same (n := k + q) (by omega) ?_
                  rw [HX2.out, show k + q - 1 = k + (q - 1) by omega, HY2.out, HE2.out]
                have HDD := Lib.hid hdd2
                clear hdd2 hEQ
                go_wp2
                refine ⟨⟨m, q + 1, cur, rfl, by go_num, by omega, by omega, by omega, ?_, (HQ2.out.block g hgw).trans HG.out, HL.out, ?_, fun j z hj => HC.out j z (by omega), HB.out.trans (HQ2.out.mono (Nat.le_trans hB2 HB.out.size))⟩, by simp only [intOf]; omega⟩
                · show m = _; rw [HDD.out]; exact HM.out
                · show _ = _; rw [HDD.out]; exact HT.out
              · have hEQ : (x2 != y2) = true := by simp [he2]
                have HE2 := Lib.hid he2
                clear he2
                go_wp2
                refine wp_region_quiet_below (by kernel_rfl) (by kernel_rfl) ?_
                repeat (first | go_big_quiet_step (fail) | quiet_step (fail))
                refine wpQuiet_nil ?_
                intro _ hw'
                obtain ⟨⟨nq, osq⟩, hw''⟩ := hw'
                subst hw''
                have hq := below_regrown wr nq osq
                have hG2 := (hq.block g hgw).trans HG.out
                have hB2' := HB.out.trans (hq.mono (Nat.le_trans hB2 HB.out.size))
                clear hq
                have hdd2 : ddU d (k + (q + 1)) = ddU d (k + q) ++ [x2] := by
                  refine ddU_new (n := k + q) HX2.out (fun _ => ?_)
                  rw [HX2.out, show k + q - 1 = k + (q - 1) by omega, HY2.out]
                  intro h
                  injection h with h
                  exact HE2.out h
                have HDD := Lib.hid hdd2
                have hfit : m + [Value.int .u32 x2].length ≤ cur.length := by rw [HL.out]; simp; omega
                clear hdd2 hEQ E0
                have g0 := F0 nq osq
                have HB3 := Lib.hid hB2'
                clear hB2'
                go_wp2_with (refine wpList_store_splice rfl _ _ 23 rfl 1 Try.sizeOf23 g m rfl (.int .u32 x2) rfl cur 23 hG2 [.int .u32 x2] rfl rfl hfit (by intro v hv; rw [List.mem_singleton] at hv; subst hv; rfl) B w HB3.out (Nat.le_trans hB hbg) ?_; intro w5 hg5 hb5)
                have hlen5 : (splice cur m [Value.int .u32 x2]).length = c := by rw [length_splice _ _ _ hfit]; exact HL.out
                have htk5 : (splice cur m [Value.int .u32 x2]).take (m + 1) = ucells (ddU d (k + (q + 1))) := by
                  rw [takeU_splice hfit (m := m + 1) (by simp), HDD.out, ucells_snoc, HT.out]
                refine ⟨⟨m + 1, q + 1, splice cur m [Value.int .u32 x2], by go_num, by go_num, by omega, by omega, by omega, ?_, hg5, hlen5, htk5, ?_, hb5⟩, by simp only [intOf]; omega⟩
                · show m + 1 = _
                  rw [HDD.out, List.length_append, ← HM.out]; rfl
                · intro j z hj hz
                  rw [spliceU_get hfit (by simp; omega)]
                  exact HC.out j z (by omega) hz
            · obtain rfl : q = d.length - k := by omega
              have hgx := HG.out
              have ekq : k + (d.length - k) = d.length := by omega
              have HM2 : Hid (m = (ddU d d.length).length) := by have h := HM.out; rw [ekq] at h; exact h
              have HT2 : Hid (cur.take m = ucells (ddU d d.length)) := by have h := HT.out; rw [ekq] at h; exact h
              clear ekq HM HT HC
              have hmd : m < d.length := by omega
              have hnm : (m : Int) ≤ (c : Int) := by omega
              have hnc2 : ¬ c = m := by omega
              have hfz : m + (Builtin.zeroCells (Value.int .u32 0).cells (d.length - m)).toList.length ≤ cur.length := by rw [zeroU_len, HL.out]; omega
              go_wp2_with (refine wpList_clear_K rfl _ 27 rfl 23 Try.underlying27 (.int .u32 0) Try.zeroValue23 (by intro v hv; simp only [Value.cells, List.mem_cons, List.not_mem_nil, or_false] at hv; subst hv; rfl) (some ⟨g, m, none⟩) (d.length - m) (c - m) rfl (by omega) g m rfl cur 23 hgx _ rfl hfz B w HB.out (Nat.le_trans hB hbg) ?_; intro w5 hg5 hb5)
              go_ret
              have hl5 := length_splice cur m _ hfz
              refine ⟨_, rfl, ?_, hb5⟩
              have hM := HM2.out
              rw [← hM]
              refine owns_of_block (cur := (splice cur m _).toArray) hg5.out (by omega) hcm (by rw [List.size_toArray, hl5, HL.out]; omega) ?_ (by rw [ucells_len, ← hM]; omega) hbg
              rw [← HT2.out, Nat.mul_one]
              exact takeU_low (by rw [HL.out]; omega) rfl
        · have hEQ : (x == y) = false := by simp [he]
          have HE := Lib.hid he
          clear he
          go_wp2
          refine wp_region_quiet_below (by kernel_rfl) (by kernel_rfl) ?_
          repeat (first | go_big_quiet_step (fail) | quiet_step (fail))
          refine wpQuiet_nil ?_
          intro _ hw'
          obtain ⟨⟨nq, osq⟩, hw''⟩ := hw'
          subst hw''
          have hq := below_regrown wx nq osq
          go_wp2
          refine ⟨⟨k + 1, rfl, by omega, by omega, ?_, HN.out.trans (hq.mono HN.out.size)⟩, by simp only [intOf]; omega⟩
          intro i h1 h3
          by_cases hik : i = k
          · subst hik
            rw [HX.out, HY.out]
            intro h
            injection h with h
            exact HE.out h
          · exact HD.out i h1 (by omega)
      · obtain rfl : k = d.length := by omega
        have hJ : ¬ (d.length : Int) < (d.length : Int) := by omega
        have hdd : ddU d d.length = d := by rw [ddU_all (Nat.le_refl _) HD.out, List.take_length]
        go_wp2
        go_ret
        exact ⟨_, rfl, by first | exact owns_kept_none HO.out (only_of_below HN.out none) | (rw [hdd]; exact owns_kept_none HO.out (only_of_below HN.out none)), HN.out.mono hB2⟩
end Go.Proofs.Ythgmmajoinkblaa
