/-
  Joined texts: Pq8, SpMath, Cmp, Sp1, OpenS, Sp2, SpMath2.
-/
import Derived.Test.YthgmmajoinkblaaDoorMSpansNames4
import Derived.Test.YthgmmajoinkblaaDoorMSpansNames1
import Derived.Test.YthgmmajoinkblaaDoorProg
import Derived.Test.YthgmmajoinkblaaDoorShelf4
import Derived.Deep.RegionHeld3
import Derived.Deep.Slices
import Derived.ChangeSame
import Derived.Lib.LaidU8
import Derived.OpenShut
import Derived.WideShapes
import Derived.ChangeMaps5
import Derived.Laws.OwnMore
/-
  slices.Compact at a row of the call's own, numbers of 32 bits.
-/
namespace Go.Proofs.YthgmmajoinkblaaDoor
open Go Go.RowKit Go.Lib Go.Sort

/-- What is left of the first n numbers, runs of equals being one. -/
def ddU (d : List Int) : Nat → List Int
  | 0 => []
  | n + 1 => if n ≠ 0 ∧ d[n]? = d[n - 1]? then ddU d n else ddU d n ++ (d[n]?).toList
theorem ddU_len (d : List Int) : ∀ n, (ddU d n).length ≤ n
  | 0 => Nat.le_refl _
  | n + 1 => by
    have := ddU_len d n
    unfold ddU
    split
    · omega
    · cases d[n]? <;> simp <;> omega
theorem ddU_same {d : List Int} {n : Nat} (h : n ≠ 0) (he : d[n]? = d[n - 1]?) : ddU d (n + 1) = ddU d n := by rw [ddU, if_pos ⟨h, he⟩]
theorem ddU_new {d : List Int} {n : Nat} {x : Int} (hx : d[n]? = some x) (he : n ≠ 0 → d[n]? ≠ d[n - 1]?) : ddU d (n + 1) = ddU d n ++ [x] := by
  rw [ddU, if_neg (fun h => he h.1 h.2), hx]; rfl
theorem ddU_all {d : List Int} : ∀ {k : Nat}, k ≤ d.length → (∀ i, 1 ≤ i → i < k → d[i]? ≠ d[i - 1]?) → ddU d k = d.take k
  | 0, _, _ => by simp [ddU]
  | k + 1, hk, h => by
    have hx := List.getElem?_eq_getElem (l := d) (i := k) (by omega)
    rw [ddU_new hx (fun h0 => h k (by omega) (by omega)), ddU_all (by omega) (fun i h1 h2 => h i h1 (by omega)), List.take_add_one, hx]
    rfl
theorem ddU_sorted {d : List Int} (hd : d.Pairwise (· ≤ ·)) : ∀ n, n ≤ d.length → (ddU d n).Pairwise (· < ·) ∧ ∀ x, x ∈ ddU d n ↔ x ∈ d.take n
  | 0, _ => ⟨List.Pairwise.nil, fun x => by simp [ddU]⟩
  | n + 1, hn => by
    obtain ⟨h1, h2⟩ := ddU_sorted hd n (by omega)
    obtain ⟨x, hx⟩ : ∃ x, d[n]? = some x := ⟨_, List.getElem?_eq_getElem (by omega)⟩
    have hx' := List.getElem?_eq_some_iff.1 hx
    have htk : d.take (n + 1) = d.take n ++ [x] := by rw [List.take_add_one, hx]; rfl
    by_cases he : n ≠ 0 ∧ d[n]? = d[n - 1]?
    · rw [ddU_same he.1 he.2]
      refine ⟨h1, fun y => ?_⟩
      rw [h2, htk, List.mem_append, List.mem_singleton]
      constructor
      · exact .inl
      · rintro (h | rfl)
        · exact h
        · rw [hx] at he
          have h0 := he.1
          exact List.mem_of_getElem? (i := n - 1) (by rw [List.getElem?_take_of_lt (by omega)]; exact he.2.symm)
    · rw [ddU_new hx (fun h0 h3 => he ⟨h0, h3⟩)]
      refine ⟨List.pairwise_append.2 ⟨h1, List.pairwise_singleton _ _, fun y hy z hz => ?_⟩, fun y => ?_⟩
      · rw [List.mem_singleton] at hz
        subst hz
        obtain ⟨i, hi, e⟩ := List.getElem_of_mem ((h2 y).1 hy)
        have hin : i < n := by simp at hi; omega
        rw [List.getElem_take] at e
        obtain ⟨p, hp⟩ : ∃ p, d[n - 1]? = some p := ⟨_, List.getElem?_eq_getElem (by omega)⟩
        have hp' := List.getElem?_eq_some_iff.1 hp
        have hpz : p ≤ z := by
          have := List.pairwise_iff_getElem.1 hd (n - 1) n hp'.1 hx'.1 (by omega)
          rw [hp'.2, hx'.2] at this
          exact this
        have hne : p ≠ z := fun h => he ⟨by omega, by rw [hx, hp, h]⟩
        rcases Nat.eq_or_lt_of_le (show i ≤ n - 1 by omega) with e2 | e2
        · have : y = p := by rw [← e, ← hp'.2]; congr 1
          omega
        · have := List.pairwise_iff_getElem.1 hd i (n - 1) (by omega) hp'.1 e2
          rw [e, hp'.2] at this
          omega
      · rw [htk, List.mem_append, List.mem_append, h2]
theorem takeU_splice {α : Type} {L : List α} {off m : Nat} {cs : List α} (h : off + cs.length ≤ L.length) (hm : m = off + cs.length) : (splice L off cs).take m = L.take off ++ cs := by
  unfold splice
  have e : (L.take off ++ cs).length = m := by rw [List.length_append, List.length_take]; omega
  rw [← List.append_assoc, List.take_left' e]
theorem spliceU_get {α : Type} {L : List α} {off j : Nat} {cs : List α} (h : off + cs.length ≤ L.length) (hj : off + cs.length ≤ j) : (splice L off cs)[j]? = L[j]? := by
  unfold splice
  rw [List.getElem?_append_right (by rw [List.length_take]; omega), List.getElem?_append_right (by rw [List.length_take]; omega), List.getElem?_drop]
  congr 1
  rw [List.length_take]; omega
theorem takeU_low {α : Type} {L : List α} {off m : Nat} {cs : List α} (h : off ≤ L.length) (hm : m = off) : (splice L off cs).take m = L.take off := by
  unfold splice
  subst hm
  rw [List.take_left' (by rw [List.length_take]; omega)]
theorem zeroU_len (n : Nat) : (Builtin.zeroCells (Value.int .u32 0).cells n).toList.length = n := by simp [Builtin.zeroCells, Value.cells]
theorem ucells_snoc (A : List Int) (s : Int) : ucells (A ++ [s]) = ucells A ++ [.int .u32 s] := by simp [ucells]
set_option maxRecDepth 100000 in
set_option maxHeartbeats 8000000 in
theorem compactU_any (d : List Int) (v : Value) (base B : Nat) (w : World) (hown : w.ownsRow base 22 1 v d.length (ucells d)) (hlen : d.length ≤ 549755813888) (hB : B ≤ base) (hB2 : B ≤ w.heap.size) :
    Calls Tryd.prog 11 #[v] w fun e w' =>
      ∃ v', e = .returned v' ∧ w'.ownsRow base 22 1 v' (ddU d d.length).length (ucells (ddU d d.length)) ∧ Below B w w' := by
  obtain ⟨A, c, rfl, hA⟩ := owns_form hown
  have HO := Lib.hid hown
  clear hown
  go_enter Tryd.func11, Tryd.ntmps11
  by_cases h2 : d.length < 2
  · have hI : (d.length : Int) < 2 := by omega
    have hdd : ddU d d.length = d := by rw [ddU_all (Nat.le_refl _) (fun i h1 h3 => by omega), List.take_length]
    go_wp2
    go_ret
    exact ⟨_, rfl, by first | exact HO.out | (rw [hdd]; exact HO.out), Below.refl _ _⟩
  · have hI : ¬ (d.length : Int) < 2 := by omega
    obtain ⟨g, rfl⟩ := hA (by omega)
    have hg : g < w.heap.size := (HO.out.lt g rfl).2
    have hnc : d.length ≤ c := by obtain ⟨cur, _, h, _⟩ := owns_block HO.out; exact h
    go_wp2
    go_loopw [3] (fun i wx => ∃ k : Nat, i = .int .i64 k ∧ 1 ≤ k ∧ k ≤ d.length ∧ Hid (∀ i, 1 ≤ i → i < k → d[i]? ≠ d[i - 1]?) ∧ Hid (Below w.heap.size w wx)) (fun i _ => d.length - (intOf i).toNat)
    case atStart => exact ⟨1, rfl, by omega, by omega, (fun i h1 h3 => absurd h3 (by omega)), Below.refl _ _⟩
    case round =>
      obtain ⟨k, rfl, hk1, hk, HD, HN⟩ := hrel
      rename World => wx
      by_cases hlt : k < d.length
      · have hJ : (k : Int) < (d.length : Int) := by omega
        obtain ⟨x, hx⟩ : ∃ x, d[k]? = some x := ⟨_, List.getElem?_eq_getElem hlt⟩
        obtain ⟨y, hy⟩ : ∃ y, d[k - 1]? = some y := ⟨_, List.getElem?_eq_getElem (by omega)⟩
        have hc1 : ∀ (j : Nat) (z : Int), d[j]? = some z → wx.cell? ⟨g, j, none⟩ = some (.int .u32 z) := fun j z hz => (HN.out.cell (p := ⟨g, j, none⟩) hg).trans ((HO.out.cellAt j (by have := (List.getElem?_eq_some_iff.1 hz).1; omega)).trans (ucell hz))
        have f0 := hc1 k x hx
        have e0 := hc1 (k - 1) y hy
        have F0 := cell_regrown f0
        have E0 := cell_regrown e0
        have HX := Lib.hid hx
        have HY := Lib.hid hy
        clear hc1 hx hy f0 e0
        by_cases he : x = y
        · have hEQ : (x == y) = true := by simp [he]
          have HE := Lib.hid he
          clear he
          go_wp2
          refine wp_region_quiet_below (by kernel_rfl) (by kernel_rfl) ?_
          repeat (first | go_big_quiet_step (fail) | quiet_step (fail))
          refine wpQuiet_nil ?_
          intro _ hw'
          obtain ⟨⟨nq, osq⟩, hw''⟩ := hw'
          subst hw''
          have hq := below_regrown wx nq osq
          have HQ := Lib.hid (HN.out.trans (hq.mono HN.out.size))
          have hown3 := owns_kept_none HO.out (only_of_below HQ.out none)
          obtain ⟨cur0, hg0, _, hcm, hcs, ht0, hbg⟩ := owns_block hown3
          have hm0 : (ddU d (k + 1)).length = k := by
            rw [ddU_same (by omega) (by rw [HX.out, HY.out, HE.out]), ddU_all (by omega) HD.out, List.length_take]; omega
          have hT0 : cur0.toList.take k = ucells (ddU d (k + 1)) := by
            rw [ddU_same (by omega) (by rw [HX.out, HY.out, HE.out]), ddU_all (by omega) HD.out]
            have e2 := congrArg (List.take k) ht0
            rw [List.take_take, show min k (d.length * 1) = k from Nat.min_eq_left (by omega)] at e2
            rw [e2]
            simp [ucells]
          have hC0 : ∀ (j : Nat) (z : Int), k ≤ j → d[j]? = some z → cur0.toList[j]? = some (.int .u32 z) := by
            intro j z _ hz
            have h3 := (List.getElem?_eq_some_iff.1 hz).1
            have h4 := ucell hz
            rw [← ht0, List.getElem?_take_of_lt (by omega)] at h4
            exact h4
          have HT0 := Lib.hid hT0
          have HC0 := Lib.hid hC0
          have HG0 := Lib.hid hg0
          have HB0 := Lib.hid (HQ.out.mono hB2)
          have HM0 := Lib.hid hm0
          have hcl : cur0.toList.length = c := by rw [Array.length_toList, hcs]; omega
          have HCL := Lib.hid hcl
          clear hown3 hg0 ht0 hT0 hC0 hm0 hcl hcs HN HD F0 E0 hEQ HQ
          have hne : ¬ c = k := by omega
          have hkc : (k : Int) ≤ (c : Int) := by omega
          go_wp2
          go_loopw [3, 5] (fun a b wr => ∃ (m q : Nat) (cur : List Value), a = .int .i64 m ∧ b = .int .i64 q ∧ 1 ≤ q ∧ k + q ≤ d.length ∧ m + 1 ≤ k + q ∧ Hid (m = (ddU d (k + q)).length) ∧ Hid (wr.heap[g]? = some (.cells cur.toArray 22 (0, 0))) ∧ Hid (cur.length = c) ∧ Hid (cur.take m = ucells (ddU d (k + q))) ∧ Hid (∀ (j : Nat) (z : Int), k + q - 1 ≤ j → d[j]? = some z → cur[j]? = some (.int .u32 z)) ∧ Hid (Below B w wr)) (fun _ b _ => d.length - (intOf b).toNat)
          case atStart => exact ⟨k, 1, cur0.toList, rfl, rfl, by omega, by omega, by omega, HM0.out.symm, HG0.out, HCL.out, HT0.out, HC0.out, HB0.out⟩
          case round =>
            obtain ⟨m, q, cur, rfl, rfl, hq1, hkq, hmq, HM, HG, HL, HT, HC, HB⟩ := hrel
            rename World => wr
            clear HT0 HC0 HG0 HB0 HM0 HCL
            have hqd : (k : Int) + (q : Int) ≤ (d.length : Int) := by omega
            by_cases hlq : q < d.length - k
            · have hI2 : (q : Int) < ((d.length - k : Nat) : Int) := by omega
              have hI3 : ((q : Int) - 1) < ((d.length - k : Nat) : Int) := by omega
              have hI4 : (m : Int) < (d.length : Int) := by omega
              obtain ⟨x2, hx2⟩ : ∃ x2, d[k + q]? = some x2 := ⟨_, List.getElem?_eq_getElem (by omega)⟩
              obtain ⟨y2, hy2⟩ : ∃ y2, d[k + (q - 1)]? = some y2 := ⟨_, List.getElem?_eq_getElem (by omega)⟩
              have hcr : ∀ (i : Nat) (u : Value), cur[i]? = some u → wr.cell? ⟨g, i, none⟩ = some u := fun i u hu => by rw [cell_of_row wr g i _ _ (0, 0) HG.out]; simpa using hu
              have f0 : wr.cell? ⟨g, k + q, none⟩ = some (.int .u32 x2) := hcr _ _ (HC.out (k + q) x2 (by omega) hx2)
              have e0 : wr.cell? ⟨g, k + (q - 1), none⟩ = some (.int .u32 y2) := hcr _ _ (HC.out (k + (q - 1)) y2 (by omega) hy2)
              have F0 := cell_regrown f0
              have E0 := cell_regrown e0
              have HX2 := Lib.hid hx2
              have HY2 := Lib.hid hy2
              have hgw := lt_of_block HG.out
              clear hcr hx2 hy2 f0 e0
              by_cases he2 : x2 = y2
              · have hEQ : (x2 != y2) = false := by simp [he2]
                have HE2 := Lib.hid he2
                clear he2
                go_wp2
                refine wp_region_quiet_below (by kernel_rfl) (by kernel_rfl) ?_
                repeat (first | go_big_quiet_step (fail) | quiet_step (fail))
                refine wpQuiet_nil ?_
                intro _ hw'
                obtain ⟨⟨nq, osq⟩, hw''⟩ := hw'
                subst hw''
                have hq := below_regrown wr nq osq
                have HQ2 := Lib.hid hq
                clear hq
                have hdd2 : ddU d (k + (q + 1)) = ddU d (k + q) := by
                  refine ddU_same (n := k + q) (by omega) ?_
                  rw [HX2.out, show k + q - 1 = k + (q - 1) by omega, HY2.out, HE2.out]
                have HDD := Lib.hid hdd2
                clear hdd2 hEQ
                go_wp2
                refine ⟨⟨m, q + 1, cur, rfl, by go_num, by omega, by omega, by omega, ?_, (HQ2.out.block g hgw).trans HG.out, HL.out, ?_, fun j z hj => HC.out j z (by omega), HB.out.trans (HQ2.out.mono (Nat.le_trans hB2 HB.out.size))⟩, by simp only [intOf]; omega⟩
                · show m = _; rw [HDD.out]; exact HM.out
                · show _ = _; rw [HDD.out]; exact HT.out
              · have hEQ : (x2 != y2) = true := by simp [he2]
                have HE2 := Lib.hid he2
                clear he2
                go_wp2
                refine wp_region_quiet_below (by kernel_rfl) (by kernel_rfl) ?_
                repeat (first | go_big_quiet_step (fail) | quiet_step (fail))
                refine wpQuiet_nil ?_
                intro _ hw'
                obtain ⟨⟨nq, osq⟩, hw''⟩ := hw'
                subst hw''
                have hq := below_regrown wr nq osq
                have hG2 := (hq.block g hgw).trans HG.out
                have hB2' := HB.out.trans (hq.mono (Nat.le_trans hB2 HB.out.size))
                clear hq
                have hdd2 : ddU d (k + (q + 1)) = ddU d (k + q) ++ [x2] := by
                  refine ddU_new (n := k + q) HX2.out (fun _ => ?_)
                  rw [HX2.out, show k + q - 1 = k + (q - 1) by omega, HY2.out]
                  intro h
                  injection h with h
                  exact HE2.out h
                have HDD := Lib.hid hdd2
                have hfit : m + [Value.int .u32 x2].length ≤ cur.length := by rw [HL.out]; simp; omega
                clear hdd2 hEQ E0
                have g0 := F0 nq osq
                have HB3 := Lib.hid hB2'
                clear hB2'
                go_wp2_with (refine wpList_store_splice rfl _ _ 22 rfl 1 Tryd.sizeOf22 g m rfl (.int .u32 x2) rfl cur 22 hG2 [.int .u32 x2] rfl rfl hfit (by intro v hv; rw [List.mem_singleton] at hv; subst hv; rfl) B w HB3.out (Nat.le_trans hB hbg) ?_; intro w5 hg5 hb5)
                have hlen5 : (splice cur m [Value.int .u32 x2]).length = c := by rw [length_splice _ _ _ hfit]; exact HL.out
                have htk5 : (splice cur m [Value.int .u32 x2]).take (m + 1) = ucells (ddU d (k + (q + 1))) := by
                  rw [takeU_splice hfit (m := m + 1) (by simp), HDD.out, ucells_snoc, HT.out]
                refine ⟨⟨m + 1, q + 1, splice cur m [Value.int .u32 x2], by go_num, by go_num, by omega, by omega, by omega, ?_, hg5, hlen5, htk5, ?_, hb5⟩, by simp only [intOf]; omega⟩
                · show m + 1 = _
                  rw [HDD.out, List.length_append, ← HM.out]; rfl
                · intro j z hj hz
                  rw [spliceU_get hfit (by simp; omega)]
                  exact HC.out j z (by omega) hz
            · obtain rfl : q = d.length - k := by omega
              have hgx := HG.out
              have ekq : k + (d.length - k) = d.length := by omega
              have HM2 : Hid (m = (ddU d d.length).length) := by have h := HM.out; rw [ekq] at h; exact h
              have HT2 : Hid (cur.take m = ucells (ddU d d.length)) := by have h := HT.out; rw [ekq] at h; exact h
              clear ekq HM HT HC
              have hmd : m < d.length := by omega
              have hnm : (m : Int) ≤ (c : Int) := by omega
              have hnc2 : ¬ c = m := by omega
              have hfz : m + (Builtin.zeroCells (Value.int .u32 0).cells (d.length - m)).toList.length ≤ cur.length := by rw [zeroU_len, HL.out]; omega
              go_wp2_with (refine wpList_clear_K rfl _ 35 rfl 22 Tryd.underlying35 (.int .u32 0) Tryd.zeroValue22 (by intro v hv; simp only [Value.cells, List.mem_cons, List.not_mem_nil, or_false] at hv; subst hv; rfl) (some ⟨g, m, none⟩) (d.length - m) (c - m) rfl (by omega) g m rfl cur 22 hgx _ rfl hfz B w HB.out (Nat.le_trans hB hbg) ?_; intro w5 hg5 hb5)
              go_ret
              have hl5 := length_splice cur m _ hfz
              refine ⟨_, rfl, ?_, hb5⟩
              have hM := HM2.out
              rw [← hM]
              refine owns_of_block (cur := (splice cur m _).toArray) hg5.out (by omega) hcm (by rw [List.size_toArray, hl5, HL.out]; omega) ?_ (by rw [ucells_len, ← hM]; omega) hbg
              rw [← HT2.out, Nat.mul_one]
              exact takeU_low (by rw [HL.out]; omega) rfl
        · have hEQ : (x == y) = false := by simp [he]
          have HE := Lib.hid he
          clear he
          go_wp2
          refine wp_region_quiet_below (by kernel_rfl) (by kernel_rfl) ?_
          repeat (first | go_big_quiet_step (fail) | quiet_step (fail))
          refine wpQuiet_nil ?_
          intro _ hw'
          obtain ⟨⟨nq, osq⟩, hw''⟩ := hw'
          subst hw''
          have hq := below_regrown wx nq osq
          go_wp2
          refine ⟨⟨k + 1, rfl, by omega, by omega, ?_, HN.out.trans (hq.mono HN.out.size)⟩, by simp only [intOf]; omega⟩
          intro i h1 h3
          by_cases hik : i = k
          · subst hik
            rw [HX.out, HY.out]
            intro h
            injection h with h
            exact HE.out h
          · exact HD.out i h1 (by omega)
      · obtain rfl : k = d.length := by omega
        have hJ : ¬ (d.length : Int) < (d.length : Int) := by omega
        have hdd : ddU d d.length = d := by rw [ddU_all (Nat.le_refl _) HD.out, List.take_length]
        go_wp2
        go_ret
        exact ⟨_, rfl, by first | exact owns_kept_none HO.out (only_of_below HN.out none) | (rw [hdd]; exact owns_kept_none HO.out (only_of_below HN.out none)), HN.out.mono hB2⟩
end Go.Proofs.YthgmmajoinkblaaDoor

/-
  Sets of numbers as spans: the normal form is told by its members. No program in sight.
-/
namespace Go.Proofs.YthgmmajoinkblaaDoor

structure SpanV where
  lo : Int
  hi : Int
  hlo : 0 ≤ lo ∧ lo < 4294967296
  hhi : 0 ≤ hi ∧ hi < 4294967296
instance : Inhabited SpanV := ⟨⟨0, 0, by omega, by omega⟩⟩
theorem SpanV.eq {s t : SpanV} (h1 : s.lo = t.lo) (h2 : s.hi = t.hi) : s = t := by
  cases s; cases t; simp_all
def SpanV.inB (s : SpanV) (x : Int) : Bool := decide (s.lo ≤ x) && decide (x ≤ s.hi)
def hasB (L : List SpanV) (x : Int) : Bool := L.any fun s => s.inB x
theorem hasB_iff {L : List SpanV} {x : Int} : hasB L x = true ↔ ∃ s ∈ L, s.lo ≤ x ∧ x ≤ s.hi := by
  simp [hasB, SpanV.inB]
/-- The normal form: rising, none empty, none touching the next. -/
def NF : List SpanV → Prop
  | [] => True
  | s :: r => s.lo ≤ s.hi ∧ (∀ t ∈ r, s.hi + 1 < t.lo) ∧ NF r
theorem NF.ok {L : List SpanV} (h : NF L) : ∀ s ∈ L, s.lo ≤ s.hi := by
  induction L with
  | nil => intro s hs; simp at hs
  | cons t r ih =>
    intro s hs
    rcases List.mem_cons.1 hs with rfl | hs
    · exact h.1
    · exact ih h.2.2 s hs
theorem NF.head {s : SpanV} {r : List SpanV} (h : NF (s :: r)) {x : Int} (hx : hasB (s :: r) x = true) : s.lo ≤ x := by
  obtain ⟨t, ht, h1, h2⟩ := hasB_iff.1 hx
  rcases List.mem_cons.1 ht with rfl | ht
  · exact h1
  · have := h.2.1 t ht
    have := h.1
    omega
theorem NF.unique : ∀ {A B : List SpanV}, NF A → NF B → (∀ x, hasB A x = hasB B x) → A = B
  | [], [], _, _, _ => rfl
  | [], t :: q, _, hB, h => by
    have := h t.lo
    have h2 : hasB (t :: q) t.lo = true := hasB_iff.2 ⟨t, List.mem_cons_self .., by omega, hB.1⟩
    rw [h2] at this
    simp [hasB] at this
  | s :: r, [], hA, _, h => by
    have := h s.lo
    have h2 : hasB (s :: r) s.lo = true := hasB_iff.2 ⟨s, List.mem_cons_self .., by omega, hA.1⟩
    rw [h2] at this
    simp [hasB] at this
  | s :: r, t :: q, hA, hB, h => by
    have a1 : hasB (s :: r) s.lo = true := hasB_iff.2 ⟨s, List.mem_cons_self .., by omega, hA.1⟩
    have b1 : hasB (t :: q) t.lo = true := hasB_iff.2 ⟨t, List.mem_cons_self .., by omega, hB.1⟩
    have l1 := hB.head ((h s.lo).symm.trans a1)
    have l2 := hA.head ((h t.lo).trans b1)
    have hlo : s.lo = t.lo := by omega
    have key : ∀ {s t : SpanV} {r q : List SpanV}, NF (s :: r) → NF (t :: q) → s.lo = t.lo → (∀ x, hasB (s :: r) x = hasB (t :: q) x) → ¬ s.hi < t.hi := by
      intro s t r q hA hB hlo h hlt
      have h1 : hasB (t :: q) (s.hi + 1) = true := hasB_iff.2 ⟨t, List.mem_cons_self .., by have := hA.1; omega, by omega⟩
      obtain ⟨u, hu, h2, h3⟩ := hasB_iff.1 ((h _).trans h1)
      rcases List.mem_cons.1 hu with rfl | hu
      · omega
      · have := hA.2.1 u hu; omega
    have n1 := key hA hB hlo h
    have n2 := key hB hA hlo.symm (fun x => (h x).symm)
    have e : s = t := SpanV.eq hlo (by omega)
    subst e
    have rest : ∀ {s : SpanV} {r : List SpanV}, NF (s :: r) → ∀ x, hasB r x = (hasB (s :: r) x && decide (s.hi < x)) := by
      intro s r hA x
      rw [Bool.eq_iff_iff, Bool.and_eq_true, decide_eq_true_eq, hasB_iff, hasB_iff]
      constructor
      · rintro ⟨u, hu, h1, h2⟩
        have := hA.2.1 u hu
        exact ⟨⟨u, List.mem_cons_of_mem _ hu, h1, h2⟩, by omega⟩
      · rintro ⟨⟨u, hu, h1, h2⟩, h3⟩
        rcases List.mem_cons.1 hu with rfl | hu
        · omega
        · exact ⟨u, hu, h1, h2⟩
    rw [NF.unique hA.2.2 hB.2.2 (fun x => by rw [rest hA x, rest hB x, h x])]

end Go.Proofs.YthgmmajoinkblaaDoor

/-
  Walks over package cmp at the types of this seat: Compare and Or.
-/
namespace Go.Proofs.YthgmmajoinkblaaDoor
open Go Go.RowKit

/-- -1, 0, 1. -/
def cmpI (x y : Int) : Int := if x < y then -1 else if y < x then 1 else 0
theorem cmpI_lt {x y : Int} (h : x < y) : cmpI x y = -1 := if_pos h
theorem cmpI_gt {x y : Int} (h : y < x) : cmpI x y = 1 := by unfold cmpI; rw [if_neg (by omega), if_pos h]
theorem cmpI_eq (x : Int) : cmpI x x = 0 := by unfold cmpI; rw [if_neg (by omega), if_neg (by omega)]
/-- The first that is not 0. -/
def firstNZ : List Int → Int
  | [] => 0
  | x :: l => if x = 0 then firstNZ l else x
theorem firstNZ_take (l : List Int) (k : Nat) (x : Int) (hx : l[k]? = some x) (h : ∀ j, j < k → l[j]? = some 0) (hn : x ≠ 0) : firstNZ l = x := by
  induction l generalizing k with
  | nil => simp at hx
  | cons y l ih =>
    cases k with
    | zero => simp at hx; subst hx; unfold firstNZ; rw [if_neg hn]
    | succ k =>
      have h0 := h 0 (by omega)
      simp at h0
      subst h0
      unfold firstNZ; rw [if_pos rfl]
      exact ih k (by simpa using hx) (fun j hj => by simpa using h (j + 1) (by omega))
theorem firstNZ_zero (l : List Int) (h : ∀ j, j < l.length → l[j]? = some 0) : firstNZ l = 0 := by
  induction l with
  | nil => rfl
  | cons y l ih =>
    have h0 := h 0 (by simp)
    simp at h0
    subst h0
    unfold firstNZ; rw [if_pos rfl]
    exact ih (fun j hj => by simpa using h (j + 1) (by simp; omega))




set_option maxHeartbeats 400000 in
theorem cmpU32_any (x y : Int) (w : World) : Calls Tryd.prog 17 #[.int .u32 x, .int .u32 y] w fun e w' => e = .returned (.int .i64 (cmpI x y)) ∧ w = w' := by
  have hx : (x != x) = false := by simp
  have hy : (y != y) = false := by simp
  rcases Int.lt_trichotomy x y with h | h | h
  · have hE := Lib.hid (cmpI_lt h)
    go_enter Tryd.func17, Tryd.ntmps17
    go_wp2
    go_ret
    exact ⟨ret_int hE.out.symm, rfl⟩
  · subst h
    have hE := Lib.hid (cmpI_eq x)
    go_enter Tryd.func17, Tryd.ntmps17
    go_wp2
    go_ret
    exact ⟨ret_int hE.out.symm, rfl⟩
  · have hE := Lib.hid (cmpI_gt h)
    have h' : ¬ x < y := by omega
    go_enter Tryd.func17, Tryd.ntmps17
    go_wp2
    go_ret
    exact ⟨ret_int hE.out.symm, rfl⟩

set_option maxHeartbeats 400000 in
theorem cmpOr_any (l : List Int) (v : Value) (w : World) (h : Rd w w.heap.size 1 v l.length (l.map (Value.int .i64))) (hlen : l.length ≤ 4294967296) :
    Calls Tryd.prog 16 #[v] w fun e w' => e = .returned (.int .i64 (firstNZ l)) ∧ w = w' := by
  by_cases h0 : l.length = 0
  · obtain ⟨A, c, rfl, hc⟩ := h.form
    have e1 : l = [] := List.eq_nil_of_length_eq_zero h0
    subst e1
    go_enter Tryd.func16, Tryd.ntmps16
    go_wp2
    refine wp_loop_rounds 1 ?_
    rw [rounds_succ]
    go_wp2
    go_ret
    exact ⟨rfl, rfl⟩
  · obtain ⟨b, off, c, rfl, hc, hbB, hcell⟩ := h.pos (by omega)
    clear h
    go_enter Tryd.func16, Tryd.ntmps16
    go_wp2
    go_loop [8] (fun i => ∃ k : Nat, i = .int .i64 k ∧ k ≤ l.length ∧ ∀ j, j < k → l[j]? = some 0) (fun i => l.length - (intOf i).toNat)
    case atStart => exact ⟨0, rfl, by omega, fun j hj => absurd hj (by omega)⟩
    case round =>
      obtain ⟨k, rfl, hk, hz⟩ := hrel
      have HZ := Lib.hid hz
      clear hz
      by_cases hlt : k < l.length
      · obtain ⟨x, hx⟩ : ∃ x, l[k]? = some x := ⟨_, List.getElem?_eq_getElem hlt⟩
        have ca : w.cell? ⟨b, off + k, none⟩ = some (.int .i64 x) := hcell k _ (by simp [hx])
        have hI : (k : Int) < (l.length : Int) := by omega
        have HX := Lib.hid hx
        have HC := Lib.hid hcell
        clear hx hcell
        by_cases e : x = 0
        · have E := Lib.hid e
          have e' : (x != 0) = false := by simp [e]
          clear e
          go_wp2
          go_round
          case rel =>
            refine ⟨k + 1, by go_num, by omega, fun j hj => ?_⟩
            by_cases hjk : j = k
            · subst hjk; rw [HX.out, E.out]
            · exact HZ.out j (by omega)
          case measure => simp only [intOf]; omega
        · have E := Lib.hid e
          have e' : (x != 0) = true := by simp [e]
          clear e
          go_wp2
          go_ret
          exact ⟨ret_int (firstNZ_take l k x HX.out HZ.out E.out).symm, rfl⟩
      · go_wp2
        go_ret
        exact ⟨ret_int (firstNZ_zero l (fun j hj => HZ.out j (by omega))).symm, rfl⟩

end Go.Proofs.YthgmmajoinkblaaDoor

/-
  Walks over the layer of spans: the closure of Form, the sort of spans.
-/
namespace Go.Proofs.YthgmmajoinkblaaDoor
open Go Go.RowKit Go.Lib Go.Sort

def SpanV.enc (s : SpanV) : List Value := [.int .u32 s.lo, .int .u32 s.hi]
theorem span_len (s : SpanV) : s.enc.length = 2 := rfl
def cmpS (x y : SpanV) : Int := firstNZ [cmpI x.lo y.lo, cmpI x.hi y.hi]

set_option maxHeartbeats 1000000 in
theorem formClos_any (x y : SpanV) (w : World) :
    Calls Tryd.prog 15 #[.agg #[.int .u32 x.lo, .int .u32 x.hi], .agg #[.int .u32 y.lo, .int .u32 y.hi]] w fun e w' => e = .returned (.int .i64 (cmpS x y)) ∧ ∃ q os', w' = grow (w.drewN q) os' := by
  have hBX : ∃ os, (w.alloc (.cells #[.int .u32 x.lo, .int .u32 x.hi] 24)).alloc (.cells #[.int .u32 y.lo, .int .u32 y.hi] 24) = grow w os := ⟨_, by rw [alloc_eq_grow, alloc_eq_grow, grow_grow]⟩
  have HB := Lib.hid hBX
  clear hBX
  go_enter Tryd.func15, Tryd.ntmps15
  go_wp2
  obtain ⟨k0, k1⟩ := blk2 w (.cells #[.int .u32 x.lo, .int .u32 x.hi] 24) (.cells #[.int .u32 y.lo, .int .u32 y.hi] 24)
  obtain ⟨c0, c1, _, _⟩ := two_cells k0
  obtain ⟨c2, c3, _, _⟩ := two_cells k1
  have hsz := lt_of_block k1
  clear k0 k1
  obtain ⟨os0, hos⟩ := HB.out
  have HOS := Lib.hid hos
  clear hos HB
  generalize (w.alloc (.cells #[.int .u32 x.lo, .int .u32 x.hi] 24)).alloc (.cells #[.int .u32 y.lo, .int .u32 y.hi] 24) = W at *
  go_region_held3 (fun w' => w'.cell? ⟨w.heap.size, 0, none⟩ = some (.int .u32 x.lo) ∧ w'.cell? ⟨w.heap.size, 1, none⟩ = some (.int .u32 x.hi) ∧ w'.cell? ⟨w.heap.size + 1, 0, none⟩ = some (.int .u32 y.lo) ∧ w'.cell? ⟨w.heap.size + 1, 1, none⟩ = some (.int .u32 y.hi)) (go_keep)
    (first | (go_at_call 17; refine (cmpU32_any _ _ _).mono ?_; rintro e w' ⟨rfl, rfl⟩) | (go_at_call 16; refine (cmpOr_any [cmpI x.lo y.lo, cmpI x.hi y.hi] _ _ (Rd.of_blk (cs := #[.int .i64 (cmpI x.lo y.lo), .int .i64 (cmpI x.hi y.hi)]) (t := 3) (heap_drew (heap_alloc_new _ _)) (Nat.le_refl _) rfl) (by simp)).mono ?_; rintro e w' ⟨rfl, rfl⟩))
  all_goals go_wp2
  go_ret
  refine ⟨rfl, 1, os0 ++ #[.cells #[.int .i64 (cmpI x.lo y.lo), .int .i64 (cmpI x.hi y.hi)] 3], ?_⟩
  rw [HOS.out, alloc_eq_grow, grow_grow]
  rfl

end Go.Proofs.YthgmmajoinkblaaDoor

/-
  Arguments opened to cells: structs of any depth, slices of structs of any length; no program in sight.
-/
namespace Go.Proofs.YthgmmajoinkblaaDoor
open Go Go.RowKit Go.ChangeShapes Go.WideShapes Go.Deep

theorem list_told {α : Type} {Q : Nat → α → Prop} : ∀ n, (∀ i, i < n → ∃ r, Q i r) → ∃ L : List α, L.length = n ∧ ∀ i x, L[i]? = some x → Q i x
  | 0, _ => ⟨[], rfl, fun i x h => by simp at h⟩
  | n + 1, h => by
    obtain ⟨L, hl, hq⟩ := list_told n (fun i hi => h i (by omega))
    obtain ⟨r, hr⟩ := h n (by omega)
    refine ⟨L ++ [r], by simp [hl], fun i x hx => ?_⟩
    by_cases hi : i < L.length
    · rw [List.getElem?_append_left hi] at hx; exact hq i x hx
    · rw [List.getElem?_append_right (by omega)] at hx
      have : i - L.length = 0 := by
        have := (List.getElem?_eq_some_iff.1 hx).1
        simp at this; omega
      rw [this] at hx
      simp at hx
      subst hx
      have : i = n := by omega
      rw [this]; exact hr
theorem flat_inv {α : Type} (enc : α → List Value) (k : Nat) (hk : ∀ x, (enc x).length = k) (L : List α) (j : Nat) (u : Value) (h : (L.flatMap enc)[j]? = some u) :
    ∃ (i jj : Nat) (x : α), j = i * k + jj ∧ jj < k ∧ L[i]? = some x ∧ (enc x)[jj]? = some u := by
  have hj := (List.getElem?_eq_some_iff.1 h).1
  rw [flat_len enc k hk] at hj
  have hk0 : 0 < k := by
    rcases Nat.eq_zero_or_pos k with h0 | h0
    · subst h0; simp at hj
    · exact h0
  have hd : j / k < L.length := Nat.div_lt_of_lt_mul (by rw [Nat.mul_comm]; exact hj)
  have hm := Nat.mod_lt j hk0
  have hdm : j = j / k * k + j % k := by rw [Nat.mul_comm]; exact (Nat.div_add_mod j k).symm
  have hx := List.getElem?_eq_getElem hd
  have hu : (enc L[j / k])[j % k]? = some ((enc L[j / k])[j % k]'(by rw [hk]; exact hm)) := List.getElem?_eq_getElem _
  have hg := flat_get enc k hk L _ _ _ _ hx hu
  rw [← hdm, h] at hg
  exact ⟨j / k, j % k, _, hdm, hm, hx, hu.trans hg.symm⟩

section
variable {H : Type} {enc : TypeId × Value → H} {P : Program} {w : World} {base : Nat} {spare : Nat → Bool} {held : Bool}
theorem sub_at {t : TypeId} {fs : Array Field} {n : Nat} {cs : List Value} {x : DataW H × List MemPlace} (ht : P.underlying t = some (.struct fs)) (h : DataW.trod enc P w base spare held n t cs = some x) :
    cs.length = P.cellsOf t ∧ ∃ m, ∀ (j : Nat) (f : Field) (off : Nat) (ty : TypeId) (k : Nat), fs[j]? = some f → f.offset = off → f.type = ty → P.cellsOf ty = k → ∃ y, DataW.trod enc P w base spare held m ty ((cs.drop off).take k) = some y := by
  obtain ⟨xs, m, _, _, hl, hlen, hf⟩ := DataW.trod_struct ht h
  refine ⟨hl, m, fun j f off ty k hj ho hty hk => ?_⟩
  have h1 := hf j f hj
  have hjl : j < xs.length := by rw [hlen]; exact (Array.getElem?_eq_some_iff.1 hj).1
  subst ho hty hk
  exact ⟨_, h1.trans (List.getElem?_eq_getElem hjl)⟩
/-- A struct as a parameter. -/
theorem open_agg {r : Reach} {b0 : Nat} {t : TypeId} {fs : Array Field} {v : Value} {d : DataW H} {p : List MemPlace} (hs : P.underlying t = some (.struct fs)) (hv : Value.okWide P w r b0 t v) (h : DataW.Trod enc P w base spare held t v d p) :
    ∃ (cs : List Value) (n : Nat), v = .agg cs.toArray ∧ DataW.trod enc P w base spare held n t cs = some (d, p) := by
  obtain ⟨cs, rfl, _⟩ := okWide_struct hs hv
  obtain ⟨n, hf⟩ := h
  exact ⟨cs.toList, n, by simp, hf⟩
/-- A slice as a parameter. -/
theorem open_sl {r : Reach} {b0 : Nat} {t e : TypeId} {v : Value} {d : DataW H} {p : List MemPlace} (hs : P.underlying t = some (.slice e)) (hv : Value.okWide P w r b0 t v) (h : DataW.Trod enc P w base spare held t v d p) :
    ∃ n, DataW.trod enc P w base spare held n t [v] = some (d, p) := by
  obtain ⟨a, len, cap, rfl⟩ := okWide_slice hs hv
  exact h
/-- A slice whose elements' cells are told by one list each. -/
theorem open_rd {α : Type} {encV : α → List Value} {k : Nat} (hk : ∀ x, (encV x).length = k) (hk0 : 0 < k) {t e : TypeId} {n : Nat} {cs : List Value} {x : DataW H × List MemPlace} (ht : P.underlying t = some (.slice e)) (hC : P.cellsOf e = k)
    (hel : ∀ n cs y, DataW.trod enc P w base spare held n e cs = some y → ∃ r, cs = encV r) (h : DataW.trod enc P w base spare held n t cs = some x) :
    ∃ (v : Value) (L : List α), cs = [v] ∧ Rd w w.heap.size k v L.length (L.flatMap encV) ∧ L.length ≤ maxLen := by
  rcases open_slice ht h with ⟨h0, _⟩ | ⟨a, len, cap, m, n', D, Pl, hcs, _, hl, hm, hmm, _, hi⟩
  · exact ⟨_, [], h0, ⟨none, 0, rfl, by simp, by simp, fun h => absurd h (by simp)⟩, by simp⟩
  · have hlm : len ≤ m := by rw [hmm]; split <;> omega
    obtain ⟨L, hL, hq⟩ := list_told (Q := fun i r => w.cells? base (a.add (i * k)) k = some (encV r)) len (fun i hi' => by
      obtain ⟨cs', hc, ht'⟩ := hi i (by omega)
      obtain ⟨r, hr⟩ := hel _ _ _ ht'
      rw [hC] at hc
      exact ⟨r, by rw [hc, hr]⟩)
    refine ⟨_, L, hcs, ⟨some a, cap, by rw [hL], by omega, flat_len encV k hk L, fun hpos => ?_⟩, by omega⟩
    obtain ⟨b, off, sp⟩ := a
    have hz : ∃ u, w.cell? ⟨b, off, sp⟩ = some u := by
      obtain ⟨r, hr⟩ : ∃ r, L[0]? = some r := ⟨_, List.getElem?_eq_getElem hpos⟩
      obtain ⟨_, _, hat⟩ := World.cells?_some (hq 0 r hr)
      have h1 := hat 0 hk0
      have h2 : (encV r)[0]? = some ((encV r)[0]'(by rw [hk]; exact hk0)) := List.getElem?_eq_getElem _
      rw [h2] at h1
      refine ⟨_, Eq.trans ?_ h1⟩
      simp [Addr.add]
    obtain ⟨u0, hu0⟩ := hz
    obtain rfl := Go.Proofs.cell_spot hu0
    refine ⟨b, off, rfl, ?_, fun j u hu => ?_⟩
    · rcases Nat.lt_or_ge b w.heap.size with h | h
      · exact h
      · have hn : w.heap[b]? = none := by simp [h]
        simp [World.cell?, hn] at hu0
    · obtain ⟨i, jj, r, hj, hjj, hr, hu'⟩ := flat_inv encV k hk L j u hu
      obtain ⟨_, _, hat⟩ := World.cells?_some (hq i r hr)
      have h1 := hat jj hjj
      rw [hu'] at h1
      have e : (Addr.add ⟨b, off, none⟩ (i * k)).add jj = ⟨b, off + j, none⟩ := by
        rw [hj]; simp only [Addr.add]
        split <;> split <;> simp_all <;> omega
      rw [← e]; exact h1
end

end Go.Proofs.YthgmmajoinkblaaDoor

/-
  Rows of structs and the shelf's sort: cells told both ways; the sort of spans.
-/
namespace Go.Proofs.YthgmmajoinkblaaDoor
open Go Go.RowKit Go.Lib Go.Sort

section
variable {α : Type} [Inhabited α] {enc : α → List Value} {k : Nat}
theorem flatK_at (hk : ∀ x, (enc x).length = k) {L : List α} {j : Nat} {u : Value} (h : (L.flatMap enc)[j]? = some u) : (flatK enc k L.toArray)[j]! = u := by
  have hj := (List.getElem?_eq_some_iff.1 h).1
  rw [flat_len enc k hk] at hj
  rw [get_flatK _ _ _ _ (by simpa using hj)]
  obtain ⟨i, jj, x, rfl, hjj, hx, hu⟩ := flat_inv enc k hk L j u h
  have e1 : (i * k + jj) / k = i := by
    rw [Nat.mul_comm, Nat.mul_add_div (by omega), Nat.div_eq_of_lt hjj, Nat.add_zero]
  have e2 : (i * k + jj) % k = jj := by
    rw [Nat.mul_comm, Nat.mul_add_mod, Nat.mod_eq_of_lt hjj]
  rw [e1, e2]
  have hi := (List.getElem?_eq_some_iff.1 hx)
  have e3 : L.toArray[i]! = x := by
    have := get_bang hi.1
    rw [hx] at this
    injection this with this
    rw [this]
    simp
  rw [e3]
  have := get_bang (List.getElem?_eq_some_iff.1 hu).1
  rw [hu] at this
  injection this with this
  exact this.symm
theorem holdsK_of (hk : ∀ x, (enc x).length = k) {L : List α} {w : World} {g off : Nat} (h : ∀ j u, (L.flatMap enc)[j]? = some u → w.cell? ⟨g, off + j, none⟩ = some u) (hf : ∀ j, w.frozen? ⟨g, j, none⟩ = false) : HoldsK enc k w g off L.toArray := by
  intro j hj
  rw [size_flatK] at hj
  have hj' : j < (L.flatMap enc).length := by rw [flat_len enc k hk]; simpa using hj
  refine ⟨?_, hf _⟩
  rw [flatK_at hk (List.getElem?_eq_getElem hj')]
  exact h j _ (List.getElem?_eq_getElem hj')
theorem cells_of_holdsK (hk : ∀ x, (enc x).length = k) {d : Array α} {w : World} {g off : Nat} (h : HoldsK enc k w g off d) : ∀ j u, (d.toList.flatMap enc)[j]? = some u → w.cell? ⟨g, off + j, none⟩ = some u := by
  intro j u hu
  have hj := (List.getElem?_eq_some_iff.1 hu).1
  rw [flat_len enc k hk] at hj
  have := (h j (by rw [size_flatK]; simpa using hj)).1
  have e := flatK_at hk (L := d.toList) hu
  rw [show d.toList.toArray = d by simp] at e
  rw [e] at this
  exact this
theorem below_sortWorldK {w : World} {B g off m : Nat} {d : Array α} {os : Array Obj} (hg : B ≤ g) (hB : B ≤ w.heap.size) : RowKit.Below B w (sortWorldK enc k w g off m d os) := by
  refine ⟨rfl, rfl, rfl, ?_, fun i hi => ?_⟩
  · simp [sortWorldK, grow, putRowK, putRow, mapBlock]
  · have hne : i ≠ g := by omega
    simp only [sortWorldK, grow, putRowK, putRow, mapBlock]
    rw [Array.getElem?_append_left (by simp; omega), Array.getElem?_modify, if_neg (Ne.symm hne)]
    rfl
end

theorem ltS (x y : SpanV) : ltOf cmpS x y = decide (x.lo < y.lo ∨ (x.lo = y.lo ∧ x.hi < y.hi)) := by
  unfold ltOf cmpS
  rcases Int.lt_trichotomy x.lo y.lo with h | h | h
  · rw [cmpI_lt h]
    simp [firstNZ, h]
  · rw [h, cmpI_eq]
    rcases Int.lt_trichotomy x.hi y.hi with h2 | h2 | h2
    · rw [cmpI_lt h2]; simp [firstNZ, h2]
    · rw [h2, cmpI_eq]; simp [firstNZ]
    · rw [cmpI_gt h2]; simp [firstNZ]; omega
  · rw [cmpI_gt h]
    simp [firstNZ]; omega
theorem swoS : SWO (ltOf cmpS) where
  irrefl x := by rw [ltS]; simp
  trans x y z h1 h2 := by rw [ltS] at *; simp at *; omega
  ntrans x y z h1 h2 := by rw [ltS] at *; simp at *; omega

def scells (L : List SpanV) : List Value := L.flatMap SpanV.enc
theorem scell {L : List SpanV} {k i : Nat} {x : SpanV} {v : Value} (hr : L[k]? = some x) (hv : x.enc[i]? = some v) : (scells L)[k * 2 + i]? = some v := flat_get SpanV.enc 2 span_len L k i x v hr hv
def SortPost (L : List SpanV) (v : Value) (base : Nat) (w : World) (e : Ending) (w' : World) : Prop :=
  e = .returned (.tuple #[]) ∧ ∃ L' : List SpanV, L'.Perm L ∧ L'.Pairwise (fun x y => x.lo ≤ y.lo) ∧ Rd w' w'.heap.size 2 v L'.length (scells L') ∧ ∀ B, B ≤ base → B ≤ w.heap.size → RowKit.Below B w w'

theorem sortSpan_any (L : List SpanV) (v : Value) (base : Nat) (w : World) (hown : w.ownsRow base 24 2 v L.length (scells L)) (hlen : L.length < 4611686018427387904) :
    Calls Tryd.prog 14 #[v, .func (.func 15) #[] #[]] w fun e w' => SortPost L v base w e w' := by
  rcases Nat.eq_zero_or_pos L.length with h0 | h0
  · obtain rfl : L = [] := List.eq_nil_of_length_eq_zero h0
    obtain ⟨A, c, rfl, _⟩ := owns_form hown
    refine (AnyF.slices_SortFunc_none Tryd.sortSpan A c (.func (.func 15) #[] #[]) w).mono fun e w' ⟨he, hw⟩ => ⟨he, [], List.Perm.refl _, List.Pairwise.nil, ?_, fun B _ _ => ?_⟩
    · subst hw; exact Rd.of_own hown
    · subst hw; exact RowKit.Below.refl _ _
  · obtain ⟨A, c, rfl, hA⟩ := owns_form hown
    obtain ⟨g, rfl⟩ := hA h0
    have hg := hown.lt g rfl
    have hH : HoldsK SpanV.enc 2 w g 0 L.toArray := holdsK_of span_len (fun j u hu => by
      have := hown.cells (g := g) rfl j u hu
      have e : (⟨g, 0, none⟩ : Addr).add j = ⟨g, 0 + j, none⟩ := by simp [Addr.add]; omega
      rw [← e]; exact this) (fun j => hown.frozenAt j)
    have hcon := AnyQ.slices_SortFunc Tryd.sortSpan 2 Tryd.isAgg24 Tryd.sizeOf24 SpanV.enc span_len (fun x v hv => by simp [SpanV.enc] at hv; rcases hv with rfl | rfl <;> rfl) cmpS swoS 15 #[] g 0 c L.toArray w (enters_of Tryd.func15 (by kernel_rfl) rfl) (fun _ _ _ _ x y => formClos_any x y _) hH hg.2 (by simpa using hlen)
    rw [List.size_toArray] at hcon
    change Calls Tryd.prog 14 _ _ _ at hcon
    refine hcon.mono ?_
    rintro e w' ⟨he, d', n, os, hp, hs, hw⟩
    have hsz : d'.size = L.length := by simpa using hp.1
    subst hw
    have hK := holdsK_sortWorldK_c (enc := SpanV.enc) (k := 2) (w := w) (blk := g) (off := 0) L.toArray d' n os hH hg.2 (by simpa using hsz)
    refine ⟨he, d'.toList, ?_, ?_, ⟨_, c, ?_, ?_, ?_, fun _ => ⟨g, 0, rfl, ?_, fun j u hu => ?_⟩⟩, fun B hB hB2 => below_sortWorldK (by omega) hB2⟩
    · have := hp.2.2
      rw [← hsz] at this
      have e1 : (d'.extract 0 d'.size).toList = d'.toList := by simp
      have e2 : (L.toArray.extract 0 d'.size).toList = L := by rw [hsz]; simp
      rw [e1, e2] at this
      exact this
    · rw [List.pairwise_iff_getElem]
      intro i j hi hj hij
      have h1 := hs i j (Nat.zero_le _) hij (by simpa [hsz] using hj)
      rw [ltS] at h1
      have e1 : d'[i]! = d'.toList[i] := by
        have : i < d'.size := by simpa using hi
        simp [this]
      have e2 : d'[j]! = d'.toList[j] := by
        have : j < d'.size := by simpa using hj
        simp [this]
      rw [e1, e2] at h1
      simp at h1
      simp
      omega
    · have e1 : d'.toList.length = L.length := by simpa using hsz
      rw [e1]
    · have := hown
      obtain ⟨_, hq⟩ := this
      rcases hq with ⟨h1, _⟩ | ⟨g', cap, cur, h1, _, _, h2, _⟩
      · cases h1
      · injection h1 with _ _ h1
        rw [Array.length_toList, hsz, h1]
        exact h2
    · exact flat_len SpanV.enc 2 span_len _
    · have := size_sortWorldK_c (enc := SpanV.enc) (k := 2) (w := w) (blk := g) (off := 0) n d' os
      omega
    · exact cells_of_holdsK span_len hK j u hu

end Go.Proofs.YthgmmajoinkblaaDoor

/-
  Sets of numbers as spans: the list in normal form with given members; one step of the merging. No program in sight.
-/
namespace Go.Proofs.YthgmmajoinkblaaDoor

open Classical in
/-- The normal form of a set of numbers (if it has one). -/
noncomputable def theSet (P : Int → Bool) : List SpanV := if h : ∃ R : List SpanV, NF R ∧ ∀ x, hasB R x = P x then h.choose else []
theorem theSet_eq {P : Int → Bool} {R : List SpanV} (h : NF R) (hm : ∀ x, hasB R x = P x) : theSet P = R := by
  have he : ∃ R : List SpanV, NF R ∧ ∀ x, hasB R x = P x := ⟨R, h, hm⟩
  unfold theSet
  rw [dif_pos he]
  exact NF.unique he.choose_spec.1 h (fun x => (he.choose_spec.2 x).trans (hm x).symm)
theorem inB_iff {s : SpanV} {x : Int} : s.inB x = true ↔ s.lo ≤ x ∧ x ≤ s.hi := by simp [SpanV.inB]
theorem hasB_append (A B : List SpanV) (x : Int) : hasB (A ++ B) x = (hasB A x || hasB B x) := by simp [hasB]
theorem hasB_one (s : SpanV) (x : Int) : hasB [s] x = s.inB x := by simp [hasB]
theorem hasB_perm {A B : List SpanV} (h : A.Perm B) (x : Int) : hasB A x = hasB B x := by
  rw [Bool.eq_iff_iff, hasB_iff, hasB_iff]
  constructor
  · rintro ⟨s, hs, h1⟩; exact ⟨s, h.mem_iff.1 hs, h1⟩
  · rintro ⟨s, hs, h1⟩; exact ⟨s, h.mem_iff.2 hs, h1⟩
theorem NF.snoc : ∀ {A : List SpanV} {t : SpanV}, NF (A ++ [t]) ↔ NF A ∧ t.lo ≤ t.hi ∧ ∀ a ∈ A, a.hi + 1 < t.lo
  | [], t => by simp [NF]
  | s :: A, t => by
    have ih := @NF.snoc A t
    show (s.lo ≤ s.hi ∧ (∀ u ∈ A ++ [t], s.hi + 1 < u.lo) ∧ NF (A ++ [t])) ↔ _
    rw [ih]
    constructor
    · rintro ⟨h1, h2, h3, h4, h5⟩
      refine ⟨⟨h1, fun u hu => h2 u (List.mem_append_left _ hu), h3⟩, h4, fun a ha => ?_⟩
      rcases List.mem_cons.1 ha with rfl | ha
      · exact h2 t (List.mem_append_right _ (List.mem_singleton.2 rfl))
      · exact h5 a ha
    · rintro ⟨⟨h1, h2, h3⟩, h4, h5⟩
      refine ⟨h1, fun u hu => ?_, h3, h4, fun a ha => h5 a (List.mem_cons_of_mem _ ha)⟩
      rcases List.mem_append.1 hu with hu | hu
      · exact h2 u hu
      · obtain rfl := List.mem_singleton.1 hu
        exact h5 s (List.mem_cons_self ..)
/-- A span that reaches farther. -/
def SpanV.reach (t s : SpanV) : SpanV := ⟨t.lo, max t.hi s.hi, t.hlo, by have := t.hhi; have := s.hhi; omega⟩
theorem merge_in {A : List SpanV} {t s : SpanV} (h : NF (A ++ [t])) (hs : s.lo ≤ s.hi) (hts : t.lo ≤ s.lo) (hm : s.lo ≤ t.hi + 1) :
    NF (A ++ [t.reach s]) ∧ ∀ x, hasB (A ++ [t.reach s]) x = (hasB (A ++ [t]) x || s.inB x) := by
  obtain ⟨h1, h2, h3⟩ := NF.snoc.1 h
  refine ⟨NF.snoc.2 ⟨h1, ?_, h3⟩, fun x => ?_⟩
  · show t.lo ≤ max t.hi s.hi
    omega
  · rw [hasB_append, hasB_append, hasB_one, hasB_one, Bool.or_assoc]
    congr 1
    rw [Bool.eq_iff_iff, Bool.or_eq_true, inB_iff, inB_iff, inB_iff]
    show (t.lo ≤ x ∧ x ≤ max t.hi s.hi) ↔ _
    omega
theorem merge_new {A : List SpanV} {t s : SpanV} (h : NF (A ++ [t])) (hs : s.lo ≤ s.hi) (hm : t.hi + 1 < s.lo) : NF (A ++ [t] ++ [s]) := by
  obtain ⟨h1, h2, h3⟩ := NF.snoc.1 h
  refine NF.snoc.2 ⟨h, hs, fun a ha => ?_⟩
  rcases List.mem_append.1 ha with ha | ha
  · have := h3 a ha; omega
  · obtain rfl := List.mem_singleton.1 ha
    exact hm

end Go.Proofs.YthgmmajoinkblaaDoor
