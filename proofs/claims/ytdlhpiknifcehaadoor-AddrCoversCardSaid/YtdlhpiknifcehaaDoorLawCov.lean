/-
  The walk of the law AddrCovers.
-/
import Derived.Test.YtdlhpiknifcehaaDoorAd6
import Derived.Test.YtdlhpiknifcehaaDoorAddr9
import Derived.BigFrame
import Derived.Deep.DeepCutAuto
import Derived.Deep.RegionHeld3
import Derived.Test.YtdlhpiknifcehaaDoorSame
import Derived.StillTailTactics
namespace Go.Proofs.YtdlhpiknifcehaaDoor
open Go Go.RowKit Go.Sort

theorem next_lt {p q : Int × Int} (h : Next p q) : cmpP p.1 p.2 q.1 q.2 = -1 := by
  unfold cmpP
  have := sz_pos p.2
  rw [cmpI_lt (by have := h.1; omega)]
  rfl
theorem next_common {a n b m : Int} (h : Next (a, n) (b, m)) (hp : chk a n = 0) (hq : chk b m = 0) (h0 : 0 ≤ a) (h1 : a < 4294967296) (h2 : 0 ≤ b) (h3 : b < 4294967296) (e : n = m) : ¬ comB a n b m = n - 1 := by
  subst e
  obtain ⟨_, _, c1, c2, c3, c4, c5, c6⟩ := common_ok hp hq h0 h1 h2 h3
  rw [c1]
  intro hk
  obtain ⟨n1, n2, n3⟩ := chk_ok hp
  have hb : b = a + sz n := h.1
  have hm : ¬ a % (2 * sz n) = 0 := h.2 rfl
  have hs := sz_pos n
  have e2 : sz (n - 1) = 2 * sz n := by
    unfold sz
    rw [← p2_succ]
    congr 1; omega
  have hf := (sub_eq_iff a b (n - 1) h0 h1 h2 h3 (by omega) (by omega)).2 (by omega)
  rw [e2, hb] at hf
  have t1 := Int.emod_nonneg a (show 2 * sz n ≠ 0 by omega)
  have t2 := Int.emod_lt_of_pos a (show 0 < 2 * sz n by omega)
  have t3 := Int.emod_emod_of_dvd a (show sz n ∣ 2 * sz n from ⟨2, by omega⟩)
  rw [n3] at t3
  have t4 := Int.mul_ediv_add_emod (a % (2 * sz n)) (sz n)
  rw [t3] at t4
  have t5 : a % (2 * sz n) / sz n < 2 := Int.ediv_lt_of_lt_mul (by omega) (by omega)
  have t6 : 0 ≤ a % (2 * sz n) / sz n := Int.ediv_nonneg t1 (by omega)
  have t7 : a % (2 * sz n) = sz n := by
    rcases (show a % (2 * sz n) / sz n = 0 ∨ a % (2 * sz n) / sz n = 1 by omega) with h0 | h0
    · rw [h0] at t4; omega
    · rw [h0] at t4; omega
  have t8 : (a + sz n) % (2 * sz n) = 0 := by
    rw [Int.add_emod, t7, Int.emod_eq_of_lt (a := sz n) (by omega) (by omega), show sz n + sz n = 2 * sz n by omega, Int.emod_self]
  omega
theorem cnt_step {y : Int} {L : List (Int × Int)} {j : Nat} {p : Int × Int} (h : L[j]? = some p) : cntIn y (L.take (j + 1)) = cntIn y (L.take j) + (if inB y p.1 p.2 = true then 1 else 0) := by
  unfold cntIn
  rw [List.take_add_one, h, List.filter_append, List.length_append]
  congr 1
  simp only [Option.toList_some, List.filter_cons, List.filter_nil]
  split <;> simp_all

structure CovSt (L : List (Int × Int)) (A : Option Addr) (c g : Nat) (Ys : List Int) (w W : World) : Prop where
  rd : Rd W W.heap.size 2 (.slice A L.length c) L.length (pcells L)
  y : W.heap[g]? = some (.cells (Ys.map (Value.int .u32)).toArray 23 (0, 0))
  b : Below w.heap.size w W
theorem CovSt.next {L : List (Int × Int)} {A : Option Addr} {c g : Nat} {Ys : List Int} {w W W' : World} (h : CovSt L A c g Ys w W) (hb : Below W.heap.size W W') : CovSt L A c g Ys w W' :=
  ⟨(h.rd.below hb).mono hb.size, blk_below hb h.y, h.b.trans (hb.mono h.b.size)⟩
theorem CovSt.yc {L : List (Int × Int)} {A : Option Addr} {c g : Nat} {Ys : List Int} {w W : World} (h : CovSt L A c g Ys w W) {k : Nat} {y : Int} (hk : Ys[k]? = some y) : W.cell? ⟨g, k, none⟩ = some (.int .u32 y) := by
  rw [cell_of_row W g k _ _ _ h.y]
  simp [hk]
theorem CovSt.cell {L : List (Int × Int)} {b off c g : Nat} {Ys : List Int} {w W : World} (h : CovSt L (some ⟨b, off, none⟩) c g Ys w W) {i j : Nat} {u : Value} (hu : (pcells L)[i * 2 + j]? = some u) : W.cell? ⟨b, off + i * 2 + j, none⟩ = some u := by
  have hlen : 0 < L.length := by
    rcases Nat.eq_zero_or_pos L.length with h0 | h0
    · rw [List.length_eq_zero_iff.1 h0] at hu; simp [pcells] at hu
    · exact h0
  obtain ⟨b', off', c', hv, _, _, hcell⟩ := h.rd.posAt hlen
  injection hv with hv1 _ _
  injection hv1 with hv1
  injection hv1 with hb ho
  subst hb ho
  exact hcell i j u hu
theorem CovSt.cell0 {L : List (Int × Int)} {b off c g : Nat} {Ys : List Int} {w W : World} (h : CovSt L (some ⟨b, off, none⟩) c g Ys w W) {i : Nat} {u : Value} (hu : (pcells L)[i * 2 + 0]? = some u) : W.cell? ⟨b, off + i * 2, none⟩ = some u := h.cell hu
theorem below_drew (W : World) : Below W.heap.size W W.drew := (Below.refl _ _).drew
theorem mid_le {l h : Int} (h1 : l ≤ h) : l ≤ l + (h - l) / 2 ∧ l + (h - l) / 2 ≤ h := by omega

set_option maxRecDepth 100000 in
set_option maxHeartbeats 4000000 in
theorem lawCov_any (lo hi x : Int) (w : World) (hE : Env w) (hl0 : 0 ≤ lo) (hl1 : lo < 4294967296) (hh0 : 0 ≤ hi) (hh1 : hi < 4294967296) (hx0 : 0 ≤ x) (hx1 : x < 4294967296) :
    Calls Tryd.prog 10 #[.int .u32 lo, .int .u32 hi, .int .u32 x] w fun e w' => e = .returned (.bool true) ∧ Below w.heap.size w w' := by
  go_enter Tryd.func10, Tryd.ntmps10
  go_wp2_with fail
  refine (works_any w hE).mono ?_
  rintro e w1 ⟨rfl, hb1⟩
  go_upto_if 20 with fail
  go_cut [0, 1] (fun s0 s1 wx => ∃ l h : Int, s0 = .int .u32 l ∧ s1 = .int .u32 h ∧ 0 ≤ l ∧ l ≤ h ∧ h < 4294967296 ∧ Hid (Below w.heap.size w wx))
  case first =>
    by_cases h : hi < lo
    · have h' : lo > hi := h
      go_wp2
      go_meet
      exact ⟨hi, lo, rfl, rfl, hh0, by omega, hl1, Lib.hid hb1⟩
    · have h' : ¬ lo > hi := h
      go_wp2
      go_meet
      exact ⟨lo, hi, rfl, rfl, hl0, by omega, hh1, Lib.hid hb1⟩
  case rest =>
    obtain ⟨l, h, rfl, rfl, l0, lh, h1, hb⟩ := hcut
    clear hb1
    have hlen2 := cut_most (h + 1) (by omega) (h + 1 - l).toNat l l0
    have honce := Lib.hid (fun y => cut_once (h + 1) y (h + 1 - l).toNat l (by omega))
    have hall := Lib.hid (cut_allOk (h + 1) (h + 1 - l).toNat l l0)
    have hnext := Lib.hid (fun k p q => cut_next (h + 1) (by omega) (h + 1 - l).toNat l k p q l0)
    go_wp2_with fail
    refine (cut_any l h _ l0 lh h1).mono ?_
    rintro e w2 ⟨v, rfl, hown, hb2⟩
    have hbw := Lib.hid (hb.out.trans (hb2.mono hb.out.size))
    have hrd := Rd.of_own hown
    clear hown hb hb2
    change Hid (∀ y, cntIn y (cutP l h) = if l ≤ y ∧ y < h + 1 then 1 else 0) at honce
    change Hid (∀ p, p ∈ cutP l h → AllOk (h + 1) p) at hall
    change Hid (∀ k p q, (cutP l h)[k]? = some p → (cutP l h)[k + 1]? = some q → Next p q) at hnext
    change (cutP l h).length ≤ 62 at hlen2
    have hlen1 : 1 ≤ (cutP l h).length := by
      rcases Nat.eq_zero_or_pos (cutP l h).length with h0 | h0
      · have h9 := honce.out l
        rw [List.length_eq_zero_iff.1 h0, if_pos (by omega)] at h9
        simp [cntIn] at h9
      · exact h0
    generalize cutP l h = L at *
    obtain ⟨A, c, rfl, hcap⟩ := hrd.form
    have hI1 : ¬ (L.length : Int) < 1 := by omega
    have hI2 : ¬ (L.length : Int) > 62 := by omega
    have HR := Lib.hid hrd
    clear hrd
    obtain ⟨Ys, hYs⟩ : ∃ Ys : List Int, Ys = [x, l, h, (l - 1) % 4294967296, (h + 1) % 4294967296, l + (h - l) / 2] := ⟨_, rfl⟩
    have hk : (w2.alloc (.cells #[.int .u32 x, .int .u32 l, .int .u32 h, .int .u32 ((l - 1) % 4294967296), .int .u32 ((h + 1) % 4294967296), .int .u32 (l + (h - l) / 2)] 23)).heap[w2.heap.size]? = some (.cells (Ys.map (Value.int .u32)).toArray 23 (0, 0)) := by
      subst hYs; exact heap_alloc_new _ _
    have hY6 := Lib.hid (show Ys.length = 6 by subst hYs; rfl)
    have hYr := Lib.hid (show ∀ y ∈ Ys, 0 ≤ y ∧ y < 4294967296 by
      subst hYs
      have hm := mid_le lh
      intro y hy
      simp only [List.mem_cons, List.mem_nil_iff, or_false] at hy
      rcases hy with rfl | rfl | rfl | rfl | rfl | rfl <;> omega)
    clear hYs
    have hba : Below w2.heap.size w2 (w2.alloc (.cells #[.int .u32 x, .int .u32 l, .int .u32 h, .int .u32 ((l - 1) % 4294967296), .int .u32 ((h + 1) % 4294967296), .int .u32 (l + (h - l) / 2)] 23)) := (Below.refl _ _).alloc (Nat.le_refl _) _
    have hS := Lib.hid (CovSt.mk ((HR.out.below hba).mono hba.size) hk (hbw.out.trans (hba.mono hbw.out.size)))
    clear hk hba HR hbw
    go_wp2
    generalize w2.alloc (.cells #[.int .u32 x, .int .u32 l, .int .u32 h, .int .u32 ((l - 1) % 4294967296), .int .u32 ((h + 1) % 4294967296), .int .u32 (l + (h - l) / 2)] 23) = W at *
    generalize w2.heap.size = g at *
    go_loopw [56] (fun i wr => ∃ k : Nat, i = .int .i64 k ∧ k ≤ 6 ∧ Hid (CovSt L A c g Ys w wr)) (fun i _ => 6 - (intOf i).toNat)
    case atStart => exact ⟨0, rfl, by omega, hS⟩
    case round =>
      obtain ⟨k, rfl, hk, hSr⟩ := hrel
      clear hS
      by_cases hlt : k < 6
      · obtain ⟨y, hy⟩ : ∃ y, Ys[k]? = some y := ⟨_, List.getElem?_eq_getElem (by have := hY6.out; omega)⟩
        have hc := hSr.out.yc hy
        have hyr := hYr.out y (List.mem_of_getElem? hy)
        have hI : (k : Int) < 6 := by omega
        have hI0 : (0 : Int) ≤ k := by omega
        clear hy
        go_wp2
        go_loopw [11, 12] (fun nn j wj => ∃ i n : Nat, j = .int .i64 i ∧ nn = .int .i64 n ∧ i ≤ L.length ∧ Hid (n = cntIn y (L.take i)) ∧ Hid (CovSt L A c g Ys w wj)) (fun _ j _ => L.length - (intOf j).toNat)
        case atStart => exact ⟨0, 0, rfl, rfl, by omega, Lib.hid (show 0 = cntIn y (L.take 0) from rfl), hSr⟩
        case round =>
          obtain ⟨i, n, rfl, rfl, hi, hn, hSj⟩ := hrel
          clear hSr hc
          by_cases hil : i < L.length
          · obtain ⟨p, hp⟩ : ∃ p, L[i]? = some p := ⟨_, List.getElem?_eq_getElem hil⟩
            obtain ⟨b, off, c', hv, _, hbB, hcell⟩ := hSj.out.rd.posAt (by omega)
            injection hv with hv1 _ hv3
            subst hv1 hv3
            have ca : wr.cell? ⟨b, off + i * 2, none⟩ = some (.int .u32 p.1) := hcell i 0 _ (pcells_fst hp)
            have cb : wr.cell? ⟨b, off + i * 2 + 1, none⟩ = some (.int .i64 p.2) := hcell i 1 _ (pcells_snd hp)
            have hpr := hall.out p (List.mem_of_getElem? hp)
            have hstep := Lib.hid (cnt_step (y := y) hp)
            have hpz := sz_pos p.2
            have hp1 := hpr.2.1
            have hp2 : p.1 < 4294967296 := by have := hpr.2.2; omega
            have hI3 : (i : Int) < (L.length : Int) := by omega
            have hI4 : (0 : Int) ≤ i := by omega
            have hn62 : n ≤ 62 := by
              rw [hn.out]
              exact Nat.le_trans (List.length_filter_le _ _) (by rw [List.length_take]; omega)
            clear hcell hp hpr
            go_wp2_with fail
            refine (addrIn_any y p.1 p.2 _ hyr.1 hyr.2 hp1 hp2).mono ?_
            rintro e w5 ⟨rfl, hb5⟩
            have hS5 := Lib.hid (hSj.out.next hb5)
            clear hSj ca cb hb5
            cases hin : inB y p.1 p.2 with
            | false =>
              have hn2 := Lib.hid (show n = cntIn y (L.take (i + 1)) by rw [hstep.out, hin, ← hn.out]; rfl)
              clear hn hstep hin
              go_wp2
              go_roundw
              case rel => exact ⟨i + 1, n, by go_num, rfl, by omega, hn2, hS5⟩
              case measure =>
                change L.length - (intOf (Value.int .i64 ((i : Int) + 1))).toNat < L.length - (intOf (Value.int .i64 (i : Int))).toNat
                simp only [intOf]
                omega
            | true =>
              have hn2 := Lib.hid (show n + 1 = cntIn y (L.take (i + 1)) by rw [hstep.out, hin, ← hn.out]; rfl)
              clear hn hstep hin
              go_wp2
              go_roundw
              case rel => exact ⟨i + 1, n + 1, by go_num, by go_num, by omega, hn2, hS5⟩
              case measure =>
                change L.length - (intOf (Value.int .i64 ((i : Int) + 1))).toNat < L.length - (intOf (Value.int .i64 (i : Int))).toNat
                simp only [intOf]
                omega
          · obtain rfl : i = L.length := by omega
            have hn3 : n = if l ≤ y ∧ y < h + 1 then 1 else 0 := by rw [hn.out, List.take_length, honce.out y]
            clear hn
            by_cases c1 : l ≤ y
            · by_cases c2 : y ≤ h
              · obtain rfl : n = 1 := by rw [hn3, if_pos ⟨c1, by omega⟩]
                have d1 : decide (l ≤ y) = true := by simp [c1]
                have d2 : decide (y ≤ h) = true := by simp [c2]
                clear hn3
                go_wp2
                go_roundw
                case rel => exact ⟨k + 1, by go_num, by omega, hSj⟩
                case measure =>
                  change 6 - (intOf (Value.int .i64 ((k : Int) + 1))).toNat < 6 - (intOf (Value.int .i64 (k : Int))).toNat
                  simp only [intOf]
                  omega
              · obtain rfl : n = 0 := by rw [hn3, if_neg (by omega)]
                have d1 : decide (l ≤ y) = true := by simp [c1]
                have d2 : decide (y ≤ h) = false := by simp; omega
                clear hn3
                go_wp2
                go_roundw
                case rel => exact ⟨k + 1, by go_num, by omega, hSj⟩
                case measure =>
                  change 6 - (intOf (Value.int .i64 ((k : Int) + 1))).toNat < 6 - (intOf (Value.int .i64 (k : Int))).toNat
                  simp only [intOf]
                  omega
            · obtain rfl : n = 0 := by rw [hn3, if_neg (by omega)]
              have d1 : decide (l ≤ y) = false := by simp; omega
              clear hn3
              go_wp2
              go_roundw
              case rel => exact ⟨k + 1, by go_num, by omega, hSj⟩
              case measure =>
                change 6 - (intOf (Value.int .i64 ((k : Int) + 1))).toNat < 6 - (intOf (Value.int .i64 (k : Int))).toNat
                simp only [intOf]
                omega
      · obtain rfl : k = 6 := by omega
        go_wp2
        go_loopw [13] (fun i wr => ∃ k : Nat, i = .int .i64 k ∧ k + 1 ≤ L.length ∧ Hid (CovSt L A c g Ys w wr)) (fun i _ => L.length - (intOf i).toNat)
        case atStart => exact ⟨0, rfl, hlen1, hSr⟩
        case round =>
          clear hSr
          obtain ⟨k, rfl, hk1, hSr⟩ := hrel
          by_cases hlt : k + 1 < L.length
          · obtain ⟨⟨pa, pn⟩, hp⟩ : ∃ p, L[k]? = some p := ⟨_, List.getElem?_eq_getElem (by omega)⟩
            obtain ⟨⟨qa, qn⟩, hq⟩ : ∃ q, L[k + 1]? = some q := ⟨_, List.getElem?_eq_getElem hlt⟩
            have hpr := hall.out _ (List.mem_of_getElem? hp)
            have hqr := hall.out _ (List.mem_of_getElem? hq)
            have hnx := hnext.out k _ _ hp hq
            obtain ⟨pc, p0, pe⟩ := hpr
            obtain ⟨qc, q0, qe⟩ := hqr
            dsimp only at pc p0 pe qc q0 qe
            have pz := sz_pos pn
            have qz := sz_pos qn
            have p1 : pa < 4294967296 := by omega
            have q1 : qa < 4294967296 := by omega
            obtain ⟨pn0, pn1, _⟩ := chk_ok pc
            have hcm := common_ok pc qc p0 p1 q0 q1
            have hCom : Hid (∀ v : World, Calls Tryd.prog 49 #[.agg #[.int .u32 pa, .int .i64 pn], .agg #[.int .u32 qa, .int .i64 qn]] v fun e w' => e = .returned (.tuple #[.agg #[.int .u32 (comA pa pn qa qn), .int .i64 (comB pa pn qa qn)], .int .i64 0]) ∧ Below v.heap.size v w') :=
              Lib.hid (fun v => by have h := addrCommon_any pa pn qa qn v p0 p1 q0 q1; unfold ComRes at h; rw [hcm.1] at h; exact h)
            have hCmp : Hid (∀ v : World, Calls Tryd.prog 50 #[.agg #[.int .u32 pa, .int .i64 pn], .agg #[.int .u32 qa, .int .i64 qn]] v fun e w' => e = .returned (.int .i64 (-1)) ∧ Below v.heap.size v w') :=
              Lib.hid (fun v => by have h := addrCmp_any pa pn qa qn v; rw [show cmpP pa pn qa qn = -1 from next_lt hnx] at h; exact h)
            have hDif := Lib.hid (next_common hnx pc qc p0 p1 q0 q1)
            clear hcm hnx pe qe pz qz pc qc
            obtain ⟨b, off, c', hv, _, hbB, hcell⟩ := hSr.out.rd.posAt (by omega)
            injection hv with hv1 _ hv3
            subst hv1 hv3
            clear hcell
            have hpa := Lib.hid (pcells_fst hp)
            have hpb := Lib.hid (pcells_snd hp)
            have hqa := Lib.hid (pcells_fst hq)
            have hqb := Lib.hid (pcells_snd hq)
            have ca : wr.cell? ⟨b, off + k * 2, none⟩ = some (.int .u32 pa) := hSr.out.cell hpa.out
            have cb : wr.cell? ⟨b, off + k * 2 + 1, none⟩ = some (.int .i64 pn) := hSr.out.cell hpb.out
            have cc : wr.cell? ⟨b, off + (k + 1) * 2, none⟩ = some (.int .u32 qa) := hSr.out.cell hqa.out
            have cd : wr.cell? ⟨b, off + (k + 1) * 2 + 1, none⟩ = some (.int .i64 qn) := hSr.out.cell hqb.out
            have hI3 : (k : Int) < (L.length : Int) := by omega
            have hI4 : (k : Int) + 1 < (L.length : Int) := by omega
            have hI5 : (0 : Int) ≤ (k : Int) + 1 := by omega
            have hI6 : (0 : Int) ≤ (k : Int) := by omega
            have hI7 : IntKind.i64.wrap ((k : Int) + 1) = (k : Int) + 1 := by rw [IntKind.wrap_i64]; omega
            have hI8 : wrap64 ((k : Int) + 1) = (k : Int) + 1 := by unfold wrap64; omega
            have hKeep : Hid (∀ v, CovSt L (some ⟨b, off, none⟩) c g Ys w v → v.cell? ⟨b, off + k * 2, none⟩ = some (.int .u32 pa) ∧ v.cell? ⟨b, off + k * 2 + 1, none⟩ = some (.int .i64 pn) ∧ v.cell? ⟨b, off + (k + 1) * 2, none⟩ = some (.int .u32 qa) ∧ v.cell? ⟨b, off + (k + 1) * 2 + 1, none⟩ = some (.int .i64 qn)) :=
              Lib.hid (fun v hv => ⟨hv.cell hpa.out, hv.cell hpb.out, hv.cell hqa.out, hv.cell hqb.out⟩)
            clear hp hq
            clear hpa hpb hqa hqb
            go_upto_region 23 with fail
            go_cut [14, 15] (fun s14 s15 wx => s15 = .int .i64 0 ∧ ∃ gb : Nat, s14 = .pointer (some ⟨gb, 0, none⟩) ∧ Hid (wx.cell? ⟨gb, 1, none⟩ = some (.int .i64 (comB pa pn qa qn))) ∧ Hid (CovSt L (some ⟨b, off, none⟩) c g Ys w wx))
            case first =>
              have hm1 : b ≠ wr.heap.size := by omega
              have hm2 : wr.heap.size ≠ b := by omega
              go_region_held3 (fun w' => w'.cell? ⟨b, off + k * 2, none⟩ = some (.int .u32 pa) ∧ w'.cell? ⟨b, off + k * 2 + 1, none⟩ = some (.int .i64 pn) ∧ w'.cell? ⟨b, off + (k + 1) * 2, none⟩ = some (.int .u32 qa) ∧ w'.cell? ⟨b, off + (k + 1) * 2 + 1, none⟩ = some (.int .i64 qn)) (go_keep)
                (first | (go_at_call 49; refine (hCom.out _).mono ?_; rintro e w5 ⟨rfl, hb5⟩; have hbb : Below wr.heap.size wr w5 := (below_drew wr).trans hb5; have hS5 := Lib.hid (hSr.out.next hbb); obtain ⟨da, db, dc, dd⟩ := hKeep.out w5 hS5.out; have hsz5 : wr.heap.size ≤ w5.heap.size := hbb.size; have hn1 : b ≠ w5.heap.size := (by omega); have hn2 : w5.heap.size ≠ b := (by omega)) | (go_at_call 49; refine (hCom.out _).mono ?_; rintro e w5 ⟨rfl, hb5⟩; have hbb : Below wr.heap.size wr w5 := ((below_drew wr).alloc (Nat.le_refl _) _).trans (hb5.mono (by simp)); have hS5 := Lib.hid (hSr.out.next hbb); obtain ⟨da, db, dc, dd⟩ := hKeep.out w5 hS5.out; have hsz5 : wr.heap.size ≤ w5.heap.size := hbb.size; have hn1 : b ≠ w5.heap.size := (by omega); have hn2 : w5.heap.size ≠ b := (by omega); have hJ5 := Lib.hid (blk_below hb5 (heap_alloc_new _ _)); obtain ⟨e0, e1, e2, e3⟩ := two_cells hJ5.out))
              · go_wp2
                go_meet
                exact ⟨rfl, w5.heap.size, rfl, Lib.hid (by simp), Lib.hid (hSr.out.next (hbb.alloc hbb.size _))⟩
              · go_wp2
                go_meet
                exact ⟨rfl, wr.heap.size, rfl, Lib.hid (two_cells (set_1 (set_0 hJ5.out))).2.1, Lib.hid (hSr.out.next ((hbb.setCell (p := ⟨wr.heap.size, 0, none⟩) (Nat.le_refl _) _).setCell (p := ⟨wr.heap.size, 1, none⟩) (Nat.le_refl _) _))⟩
            case rest =>
              clear hSr ca cb cc cd
              obtain ⟨rfl, gb, rfl, hK, hS6⟩ := hcut
              obtain ⟨ca, cb, cc, cd⟩ := hKeep.out _ hS6.out
              have Fa := cell_regrown ca
              have Fb := cell_regrown cb
              have Fc := cell_regrown cc
              have Fd := cell_regrown cd
              have Fk := cell_regrown hK.out
              clear hKeep hCom
              generalize comB pa pn qa qn = kb at *
              go_upto_region 24 with fail
              by_cases hpq : pn = qn
              · have hB1 : (pn == qn) = true := by simp [hpq]
                have hB2 : (kb == pn - 1) = false := by simp [hDif.out hpq]
                have hW9 : wrap64 (pn - 1) = pn - 1 := by unfold wrap64; omega
                clear hpq hDif
                refine wp_region_quiet_below (by kernel_rfl) (by kernel_rfl) ?_
                iterate 40 (first | go_big_quiet_step ((first | (go_at_call 50; with_reducible exact Calls.regrown_of (hCmp.out _)))) | quiet_step ((first | (go_at_call 50; with_reducible exact Calls.regrown_of (hCmp.out _)))))
                refine wpQuiet_nil ?_
                intro _ hw'
                obtain ⟨⟨nq, osq⟩, hw''⟩ := hw'
                subst hw''
                go_wp2
                clear hI7 hI8 hW9
                exact ⟨⟨k + 1, by go_num, by omega, Lib.hid (hS6.out.next (below_regrown _ nq osq))⟩, by simp only [intOf]; omega⟩
              · have hB1 : (pn == qn) = false := by simp [hpq]
                clear hpq hDif
                refine wp_region_quiet_below (by kernel_rfl) (by kernel_rfl) ?_
                iterate 40 (first | go_big_quiet_step ((first | (go_at_call 50; with_reducible exact Calls.regrown_of (hCmp.out _)))) | quiet_step ((first | (go_at_call 50; with_reducible exact Calls.regrown_of (hCmp.out _)))))
                refine wpQuiet_nil ?_
                intro _ hw'
                obtain ⟨⟨nq, osq⟩, hw''⟩ := hw'
                subst hw''
                go_wp2
                clear hI7 hI8
                exact ⟨⟨k + 1, by go_num, by omega, Lib.hid (hS6.out.next (below_regrown _ nq osq))⟩, by simp only [intOf]; omega⟩
          · have hkl : (k : Int) + 1 = (L.length : Int) := by omega
            have hI8 : wrap64 ((k : Int) + 1) = (k : Int) + 1 := by unfold wrap64; omega
            go_wp2
            go_ret
            exact ⟨rfl, hSr.out.b⟩
end Go.Proofs.YtdlhpiknifcehaaDoor
