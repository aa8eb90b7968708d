/-
  The walk of the law RoutesSort (written by wip/gen/genrtsort.py).
-/
import Derived.Test.YtlhafehhkjjchaaRo9
namespace Go.Proofs.Ytlhafehhkjjchaa
open Go Go.RowKit Go.Lib Go.Sort

theorem rd_takeR {w : World} {B : Nat} {A : Option Addr} {c n m : Nat} {L : List RouteV} (h : Rd w B 9 (.slice A n c) n (rvcells L)) (hn : L.length = n) (hm : m ≤ n) : Rd w B 9 (.slice A m c) m (rvcells (L.take m)) := by
  obtain ⟨A', c', hv, hc, hl, hp⟩ := h
  injection hv with h1 h2 h3
  subst h1 h3
  have hlen : (L.take m).length = m := by simp; omega
  refine ⟨A, c, rfl, by omega, by rw [rvcells_len, hlen], fun hm0 => ?_⟩
  obtain ⟨b, off, hA, hB, hcell⟩ := hp (by omega)
  refine ⟨b, off, hA, hB, fun j u hu => hcell j u ?_⟩
  have e : rvcells L = rvcells (L.take m) ++ rvcells (L.drop m) := by rw [← rvcells_append, List.take_append_drop]
  rw [e, List.getElem?_append_left (List.getElem?_eq_some_iff.1 hu).1]
  exact hu
/-- A slice without memory is empty. -/
def NilR (v : Value) : Prop := ∀ n c, v = .slice none n c → n = 0 ∧ c = 0
def rt0 : RouteV := ⟨0, 0, 0, 0, 0, 0, ByteArray.empty, 0, false⟩
set_option maxRecDepth 100000 in
set_option maxHeartbeats 8000000 in
theorem lawSortR_any (L0 M0 : List RouteV) (vl vm : Value) (w : World) (hl : Rd w w.heap.size 9 vl L0.length (rvcells L0)) (hm : Rd w w.heap.size 9 vm M0.length (rvcells M0)) (nilL : NilR vl) :
    Calls Try.prog 3 #[vl, vm] w fun e w' => e = .returned (.bool true) ∧ Below w.heap.size w w' := by
  obtain ⟨i0, hi, hz0, hz1, hz2⟩ := info_parts Try.infoRoute
  obtain ⟨Al, cl, rfl, hcl⟩ := hl.form
  obtain ⟨Am, cm, rfl, hcm⟩ := hm.form
  have HL0 := Lib.hid hl
  have HM0 := Lib.hid hm
  clear hl hm
  go_enter Try.func3, Try.ntmps3
  go_wp2_with fail
  go_upto_region 1 with fail
  go_cut [0, 1] (fun s0 s1 wx => ∃ (n m : Nat), s0 = .slice Al n cl ∧ s1 = .slice Am m cm ∧ n ≤ L0.length ∧ n ≤ 120 ∧ m ≤ M0.length ∧ m ≤ 120 ∧ Hid (Below w.heap.size w wx))
  case first =>
    have g1 : min (L0.length : Int) 120 ≤ (cl : Int) := by omega
    have g2 : min (M0.length : Int) 120 ≤ (cm : Int) := by omega
    have g3 : (0 : Int) ≤ min (L0.length : Int) 120 := by omega
    have g4 : (0 : Int) ≤ min (M0.length : Int) 120 := by omega
    go_region
    all_goals (go_wp2_with fail; go_meet; exact ⟨(min (L0.length : Int) 120).toNat, (min (M0.length : Int) 120).toNat, rfl, rfl, by omega, by omega, by omega, by omega, (⟨rfl, rfl, rfl, Nat.le_refl _, fun _ _ => rfl⟩ : Below w.heap.size w w.drew)⟩)
  case rest =>
    obtain ⟨n, m, rfl, rfl, hnl, hn, hml, hm, HB0⟩ := hcut
    obtain ⟨L, hL⟩ : ∃ L, L = L0.take n := ⟨_, rfl⟩
    obtain ⟨M, hM⟩ : ∃ M, M = M0.take m := ⟨_, rfl⟩
    have hLn : L.length = n := by rw [hL, List.length_take]; omega
    have hMm : M.length = m := by rw [hM, List.length_take]; omega
    have hrl := rd_takeR HL0.out rfl hnl
    have hrm := rd_takeR HM0.out rfl hml
    rw [← hL] at hrl
    rw [← hM] at hrm
    subst hLn hMm
    have HL := Lib.hid hrl
    have HM := Lib.hid hrm
    clear hrl hrm hL hM HL0 HM0
    have hszc := HB0.out.size
    go_upto_region 3 with fail
    go_cut [6] (fun s6 wx => ∃ gi ci, s6 = .slice (some ⟨gi, 0, none⟩) L.length ci ∧ Hid (wx.ownsRow w.heap.size 28 9 (.slice (some ⟨gi, 0, none⟩) (L.length + 1) ci) (L.length + 1) (rvcells (L ++ [rt7]))) ∧ Hid (Below w.heap.size w wx))
    case first =>
      have hmade := made_rowR wc wc.heap.size rfl w.heap.size hszc
      have hbm := HB0.out.alloc hszc (.cells #[] 28)
      have HMA := Lib.hid hmade
      have HBM := Lib.hid hbm
      clear hmade hbm
      by_cases hA : Al = none
      · subst hA
        obtain ⟨h0, rfl⟩ := nilL _ _ rfl
        obtain rfl : L = [] := List.eq_nil_of_length_eq_zero (by omega)
        go_wp2_with (first | (at_builtin; refine wpList_append_own_none rfl _ _ 22 rfl w.heap.size 28 i0 9 Try.underlying22 hi _ _ _ rfl HMA.out rfl ?_) | (at_builtin; refine wpList_push9 rfl _ _ 22 rfl 28 i0 _ 9 72 Try.underlying22 hi hz0 hz1 hz2 rfl (by decide) (by decide) [.int .u32 0, .int .i64 0, .int .u8 0, .int .i64 7, .int .i64 0, .int .i64 0, .string ByteArray.empty, .int .u32 0, .bool false] rfl rfl (by simp) HMA.out rfl (renc_one rt7) (by omega) (by simp; omega) HBM.out (Nat.le_refl _) ?_; intro v2 w2 hown2 hb2; obtain ⟨A2, c2, rfl, hA2⟩ := owns_form hown2; obtain ⟨g2, rfl⟩ := hA2 (by omega)))
        go_meet
        exact ⟨g2, c2, rfl, hown2, hb2⟩
      · obtain ⟨ad, rfl⟩ : ∃ ad, Al = some ad := by cases Al with | none => exact absurd rfl hA | some ad => exact ⟨ad, rfl⟩
        clear hA
        have hsrc : ∀ (k : Nat) (u : Value), (rvcells L)[k]? = some u → (wc.alloc (.cells #[] 28)).cell? (ad.add k) = some u := by
          intro k u hu
          have hk := (List.getElem?_eq_some_iff.1 hu).1
          rw [rvcells_len] at hk
          exact srcR_of HL.out (by omega) HBM.out k u hu
        have HSRC := Lib.hid hsrc
        clear hsrc
        go_wp2_with (first | (at_builtin; refine wpList_append_own _ rfl _ _ 22 rfl w.heap.size 28 i0 _ 9 72 Try.underlying22 hi hz0 hz1 hz2 rfl (by decide) _ _ _ rfl HMA.out ad L.length cl (rvcells L) rfl (rvcells_len _) HSRC.out (rvcells_one _) (by unfold maxLen; omega) (by omega) (by simp; omega) ?_; intro v1 w1 hown1 hgr1 _; have hb1 := below_row HBM.out HMA.out hgr1 (by simp; omega) (Nat.le_refl _); have hsz1 := hb1.size; rw [Nat.zero_add, List.nil_append] at hown1) | (at_builtin; refine wpList_push9 rfl _ _ 22 rfl 28 i0 _ 9 72 Try.underlying22 hi hz0 hz1 hz2 rfl (by decide) (by decide) [.int .u32 0, .int .i64 0, .int .u8 0, .int .i64 7, .int .i64 0, .int .i64 0, .string ByteArray.empty, .int .u32 0, .bool false] rfl rfl (by simp) hown1 rfl (renc_one rt7) (by omega) hsz1 hb1 (Nat.le_refl _) ?_; intro v2 w2 hown2 hb2; obtain ⟨A2, c2, rfl, hA2⟩ := owns_form hown2; obtain ⟨g2, rfl⟩ := hA2 (by omega); have hroom := own_roomR hown2))
        go_meet
        exact ⟨g2, c2, rfl, (by rw [rvcells_append]; exact hown2 : w2.ownsRow _ _ _ _ _ _), hb2⟩
    case rest =>
      obtain ⟨gi, ci, rfl, hin, hbin⟩ := hcut
      have hszi := hbin.out.size
      go_wp2_with fail
      refine (refSortR_any L (.slice Al L.length cl) wc ((HL.out.below hbin.out).mono hszi) (by omega)).mono ?_
      rintro e p1 ⟨v, S, rfl, hS, hSl, pown, pb⟩
      obtain ⟨pA, pc, rfl, _⟩ := (Rd.of_own pown).form
      have hin1 := rd_upR (own_cutR hin.out rfl) pb
      go_wp2_with fail
      refine (sortR_any L _ p1 hin1 (by omega)).mono ?_
      rintro e p2 ⟨v, S2, rfl, hS2, _, aown, ab⟩
      obtain rfl : S2 = S := hS2.eq hS
      clear hS2
      obtain ⟨aA, ac, rfl, hA⟩ := owns_form aown
      go_wp2_with fail
      refine (sortR_any L _ p2 (rd_upR hin1 ab) (by omega)).mono ?_
      rintro e p3 ⟨v, S3, rfl, hS3, _, bown, bb⟩
      obtain rfl : S3 = S2 := hS3.eq hS
      clear hS3
      obtain ⟨bA, bc, rfl, hB⟩ := owns_form bown
      have hab3 := below_call ab bb
      have rw3 := rd_upR (Rd.of_own pown) hab3
      have c4 := refSameR_any S3 S3 _ _ p3 (rd_upR (Rd.of_own aown) bb) rw3 (by omega)
      rw [eqRB_self] at c4
      go_wp2_with fail
      refine c4.mono ?_
      rintro e p4 ⟨rfl, hb4⟩
      clear c4
      have hw4 : Below w.heap.size w p4 := hbin.out.trans ((below_call pb (below_call hab3 hb4)).mono hszi)
      have c5 := sameR_any L M _ _ p4 ((HL.out.below hw4).mono hw4.size) ((HM.out.below hw4).mono hw4.size) (by omega)
      have hq : (eqRB L M != eqRB L M) = false := by simp
      obtain ⟨eb, heb⟩ : ∃ eb, eb = eqRB L M := ⟨_, rfl⟩
      rw [← heb] at c5 hq
      have HEB := Lib.hid heb
      clear heb
      go_wp2_with fail
      refine c5.mono ?_
      rintro e p5 ⟨rfl, hb5⟩
      clear c5
      have hw5 := hw4.trans (hb5.mono hw4.size)
      have c6 := refSameR_any L M _ _ p5 ((HL.out.below hw5).mono hw5.size) ((HM.out.below hw5).mono hw5.size) (by omega)
      rw [← HEB.out] at c6
      go_wp2_with fail
      refine c6.mono ?_
      rintro e p6 ⟨rfl, hb6⟩
      clear c6 HEB
      have hb36 := below_call hb4 (below_call hb5 hb6)
      have c7 := sameR_any S3 S3 _ _ p6 (rd_upR (Rd.of_own aown) (below_call bb hb36)) (rd_upR (Rd.of_own bown) hb36) (by omega)
      rw [eqRB_self] at c7
      go_wp2_with fail
      refine c7.mono ?_
      rintro e W1 ⟨rfl, hb7⟩
      clear c7
      have hb37 := below_call hb36 hb7
      have hb27 := below_call bb hb37
      have hb17 := below_call ab hb27
      have hbi7 := below_call pb hb17
      have hw7 : Below w.heap.size w W1 := hbin.out.trans (hbi7.mono hszi)
      have hlt_gi : gi < p1.heap.size := Nat.lt_of_lt_of_le (hin.out.lt gi rfl).2 pb.size
      have hA1 : A1 W1 p1.heap.size p2.heap.size W1.heap.size (.slice aA S3.length ac) S3.length W1 := ⟨⟨_, owns_kept_none aown (only_of_below hb27 none)⟩, fun g hg => .inl (aown.lt g hg).2, Seg.refl _ _ _, Below.refl _ _, Nat.le_refl _⟩
      have HIN := Lib.hid (owns_kept_none hin.out (only_of_below hbi7 none))
      have HWANT := Lib.hid ((Rd.of_own pown).below hb17)
      have HBO := Lib.hid (owns_kept_none bown (only_of_below hb37 none))
      have hblt : ∀ g, (Value.slice bA S3.length bc).ownBlock = some g → g < W1.heap.size := fun g hg => Nat.lt_of_lt_of_le (bown.lt g hg).2 hb37.size
      have HBLT := Lib.hid hblt
      have HW7 := Lib.hid hw7
      have HA1 := Lib.hid hA1
      have hs1 : w.heap.size ≤ p1.heap.size := by have := pb.size; omega
      have hs2 := ab.size
      have hs3 := hb27.size
      clear hblt hw7 hA1 hbi7 hb17 hb27 hb37 hb7 hb36 hb6 hb5 hb4 hw4 hw5 hab3 rw3 hin1 hin hbin pown pb aown ab bown bb hq
      generalize p1.heap.size = lo at *
      generalize p2.heap.size = lo2 at *
      clear p2 p3 p4 p5 p6
      go_wp2_with fail
      go_loopw [10] (fun t wx => ∃ q : Nat, t = .int .i64 q ∧ q ≤ S3.length ∧ A1 W1 lo lo2 W1.heap.size (.slice aA S3.length ac) S3.length wx) (fun t _ => S3.length - (intOf t).toNat)
      case atStart => exact ⟨0, rfl, by omega, HA1.out⟩
      case round =>
        obtain ⟨q, rfl, hq, hst⟩ := hrel
        rename World => wr
        by_cases hlt : q < S3.length
        · have hI : (q : Int) < (S3.length : Int) := by omega
          obtain ⟨g, rfl⟩ := hA (by omega)
          obtain ⟨xs, ho⟩ := hst.1
          obtain ⟨uu, huu⟩ : ∃ uu, wr.cell? ⟨g, q * 9 + 3, none⟩ = some uu := ⟨_, (ho.cellAt (q * 9 + 3) (by omega)).trans (List.getElem?_eq_getElem (by rw [ho.1]; omega))⟩
          have hfz := ho.frozenAt (q * 9 + 3)
          have hs3 := hst.store (i := q * 9 + 3) (u := .int .i64 (-9))
          have HS3 := Lib.hid hs3
          clear hs3 hst ho
          go_wp2
          go_roundw
          case rel =>
            first
              | exact ⟨q + 1, by go_num, by omega, HS3.out⟩
              | (repeat apply Exists.intro); exact ⟨⟨q + 1, by go_num, by omega, HS3.out⟩, rfl⟩
          case measure =>
            change S3.length - ((q : Int) + 1).toNat < S3.length - (q : Int).toNat
            omega
        · obtain rfl : q = S3.length := by omega
          have hI : ¬ (S3.length : Int) < (S3.length : Int) := by omega
          have HST := Lib.hid hst
          clear hst
          go_wp2_with fail
          go_loopw [8, 11] (fun v t wx => ∃ q : Nat, t = .int .i64 q ∧ q ≤ 70 ∧ A1 W1 lo lo2 W1.heap.size v (S3.length + q) wx) (fun _ t _ => 70 - (intOf t).toNat)
          case atStart => exact ⟨0, rfl, by omega, HST.out⟩
          case round =>
            clear HST
            obtain ⟨q, rfl, hq, hst⟩ := hrel
            rename World => wx
            by_cases hlt7 : q < 70
            · have hI7 : (q : Int) < 70 := by omega
              obtain ⟨xs, ho⟩ := hst.1
              have hbs := hst.2.2.2.2
              have HST := Lib.hid hst
              clear hst
              go_wp2_with (at_builtin; refine wpList_push3 rfl _ _ 22 rfl 28 i0 _ 9 72 Try.underlying22 hi hz0 hz1 hz2 rfl (by decide) (by decide) [.int .u32 0, .int .i64 0, .int .u8 0, .int .i64 0, .int .i64 0, .int .i64 0, .string ByteArray.empty, .int .u32 0, .bool false] rfl rfl (by simp) ho rfl (renc_one rt0) (by omega) (by omega) ?_; intro v2 w3 hown3 hgr hmv)
              have hnew := HST.out.push (by omega) hown3 hgr hmv
              go_roundw
              case rel =>
                first
                  | exact ⟨q + 1, by go_num, by omega, hnew⟩
                  | (repeat apply Exists.intro); exact ⟨⟨q + 1, by go_num, by omega, hnew⟩, rfl⟩
              case measure =>
                change 70 - ((q : Int) + 1).toNat < 70 - (q : Int).toNat
                omega
            · obtain rfl : q = 70 := by omega
              obtain ⟨xs, ho⟩ := hst.1
              obtain ⟨Aa, ca, rfl, _⟩ := owns_form ho
              have HST := Lib.hid hst
              clear hst ho
              have hI7 : ¬ (70 : Int) < 70 := by omega
              go_wp2_with fail
              go_loopw [12] (fun t wy => ∃ q : Nat, t = .int .i64 q ∧ q ≤ L.length ∧ q ≤ M.length ∧ Hid (A1 W1 lo lo2 W1.heap.size (.slice Aa (S3.length + 70) ca) (S3.length + 70) wy)) (fun t _ => L.length - (intOf t).toNat)
              case atStart => exact ⟨0, rfl, by omega, by omega, HST.out⟩
              case round =>
                clear HST
                obtain ⟨q, rfl, hql, hqm, HST⟩ := hrel
                rename World => wy
                have hwy : Below w.heap.size w wy := HW7.out.trans (HST.out.2.2.2.1.mono hs1)
                have HWY := Lib.hid hwy
                clear hwy
                by_cases hlt8 : q < L.length ∧ q < M.length
                · obtain ⟨h8, h9⟩ := hlt8
                  have hI8 : (q : Int) < (L.length : Int) := by omega
                  have hI9 : (q : Int) < (M.length : Int) := by omega
                  obtain ⟨x, hx⟩ : ∃ x, L[q]? = some x := ⟨_, List.getElem?_eq_getElem h8⟩
                  obtain ⟨y, hy⟩ : ∃ y, M[q]? = some y := ⟨_, List.getElem?_eq_getElem h9⟩
                  obtain ⟨b, off, c', hv, _, hbB, hcell⟩ := (HL.out.below HWY.out).posAt (by omega)
                  injection hv with hv1 _ hv3
                  subst hv1 hv3
                  obtain ⟨b2, off2, c2', hv, _, hbB2, hcell2⟩ := (HM.out.below HWY.out).posAt (by omega)
                  injection hv with hv1 _ hv3
                  subst hv1 hv3
                  have f0 : wy.cell? ⟨b, off + q * 9, none⟩ = some (.int .u32 x.a) := hcell q 0 _ (rvcell hx rfl)
                  have e0 : wy.cell? ⟨b2, off2 + q * 9, none⟩ = some (.int .u32 y.a) := hcell2 q 0 _ (rvcell hy rfl)
                  have F0 := cell_regrown f0
                  have E0 := cell_regrown e0
                  have f1 : wy.cell? ⟨b, off + q * 9 + 1, none⟩ = some (.int .i64 x.m) := hcell q 1 _ (rvcell hx rfl)
                  have e1 : wy.cell? ⟨b2, off2 + q * 9 + 1, none⟩ = some (.int .i64 y.m) := hcell2 q 1 _ (rvcell hy rfl)
                  have F1 := cell_regrown f1
                  have E1 := cell_regrown e1
                  have f2 : wy.cell? ⟨b, off + q * 9 + 2, none⟩ = some (.int .u8 x.fr) := hcell q 2 _ (rvcell hx rfl)
                  have e2 : wy.cell? ⟨b2, off2 + q * 9 + 2, none⟩ = some (.int .u8 y.fr) := hcell2 q 2 _ (rvcell hy rfl)
                  have F2 := cell_regrown f2
                  have E2 := cell_regrown e2
                  have f3 : wy.cell? ⟨b, off + q * 9 + 3, none⟩ = some (.int .i64 x.di) := hcell q 3 _ (rvcell hx rfl)
                  have e3 : wy.cell? ⟨b2, off2 + q * 9 + 3, none⟩ = some (.int .i64 y.di) := hcell2 q 3 _ (rvcell hy rfl)
                  have F3 := cell_regrown f3
                  have E3 := cell_regrown e3
                  have f4 : wy.cell? ⟨b, off + q * 9 + 4, none⟩ = some (.int .i64 x.me) := hcell q 4 _ (rvcell hx rfl)
                  have e4 : wy.cell? ⟨b2, off2 + q * 9 + 4, none⟩ = some (.int .i64 y.me) := hcell2 q 4 _ (rvcell hy rfl)
                  have F4 := cell_regrown f4
                  have E4 := cell_regrown e4
                  have f5 : wy.cell? ⟨b, off + q * 9 + 5, none⟩ = some (.int .i64 x.ta) := hcell q 5 _ (rvcell hx rfl)
                  have e5 : wy.cell? ⟨b2, off2 + q * 9 + 5, none⟩ = some (.int .i64 y.ta) := hcell2 q 5 _ (rvcell hy rfl)
                  have F5 := cell_regrown f5
                  have E5 := cell_regrown e5
                  have f6 : wy.cell? ⟨b, off + q * 9 + 6, none⟩ = some (.string x.nm) := hcell q 6 _ (rvcell hx rfl)
                  have e6 : wy.cell? ⟨b2, off2 + q * 9 + 6, none⟩ = some (.string y.nm) := hcell2 q 6 _ (rvcell hy rfl)
                  have F6 := cell_regrown f6
                  have E6 := cell_regrown e6
                  have f7 : wy.cell? ⟨b, off + q * 9 + 7, none⟩ = some (.int .u32 x.ho) := hcell q 7 _ (rvcell hx rfl)
                  have e7 : wy.cell? ⟨b2, off2 + q * 9 + 7, none⟩ = some (.int .u32 y.ho) := hcell2 q 7 _ (rvcell hy rfl)
                  have F7 := cell_regrown f7
                  have E7 := cell_regrown e7
                  have f8 : wy.cell? ⟨b, off + q * 9 + 8, none⟩ = some (.bool x.dc) := hcell q 8 _ (rvcell hx rfl)
                  have e8 : wy.cell? ⟨b2, off2 + q * 9 + 8, none⟩ = some (.bool y.dc) := hcell2 q 8 _ (rvcell hy rfl)
                  have F8 := cell_regrown f8
                  have E8 := cell_regrown e8
                  have c1 : ∀ W, Calls Try.prog 11 #[.agg x.enc.toArray, .agg y.enc.toArray] W fun e w' => e = .returned (.int .i64 (cmpR x y)) ∧ Below W.heap.size W w' := fun W => (rcmp_any x y W).mono fun _ _ ⟨he, hg⟩ => ⟨he, hg.below⟩
                  have HC1 := Lib.hid c1
                  have HC2 := Lib.hid (fun W => refRcmp_any x y W)
                  have hne : (cmpR x y != cmpR x y) = false := by simp
                  clear c1 hcell hcell2 hx hy f0 e0 f1 e1 f2 e2 f3 e3 f4 e4 f5 e5 f6 e6 f7 e7 f8 e8
                  go_wp2
                  refine wp_region_quiet_below (by kernel_rfl) (by kernel_rfl) ?_
                  repeat (first | go_big_quiet_step (first | (go_at_call 11; exact Calls.regrown_of (HC1.out _)) | (go_at_call 12; exact Calls.regrown_of (HC2.out _))) | quiet_step (first | (go_at_call 11; exact Calls.regrown_of (HC1.out _)) | (go_at_call 12; exact Calls.regrown_of (HC2.out _))))
                  refine wpQuiet_nil ?_
                  intro _ hw'
                  obtain ⟨⟨nq, osq⟩, hw''⟩ := hw'
                  subst hw''
                  have hq := below_regrown wy nq osq
                  have hst2 := HST.out.up (by omega) hq
                  have HST2 := Lib.hid hst2
                  clear hq hst2 HST F0 E0 F1 E1 F2 E2 F3 E3 F4 E4 F5 E5 F6 E6 F7 E7 F8 E8
                  go_wp2
                  go_roundw
                  case rel =>
                    first
                      | exact ⟨q + 1, by go_num, by omega, by omega, HST2.out⟩
                      | (repeat apply Exists.intro); exact ⟨⟨q + 1, by go_num, by omega, by omega, HST2.out⟩, rfl⟩
                  case measure =>
                    change L.length - ((q : Int) + 1).toNat < L.length - (q : Int).toNat
                    omega
                · have hseg0 : Seg w.heap.size lo W1 wy := fun b _ h => HST.out.2.2.2.1.block b h
                  have hin9 := own_segR HIN.out (m' := lo) (fun g hg => by injection hg with hg; subst hg; exact hlt_gi) (Nat.le_refl _) hseg0 (Nat.le_refl _)
                  have rin := own_cutR hin9 rfl
                  have hroom := own_roomR hin9
                  have e7 : wy.cell? ⟨gi, L.length * 9 + 3, none⟩ = some (.int .i64 7) := (hin9.cellAt (L.length * 9 + 3) (by omega)).trans (rvcell (L := L ++ [rt7]) (k := L.length) (i := 3) (x := rt7) (by simp) rfl)
                  have hgi : gi < wy.heap.size := by have := HWY.out.size; have := (hin9.lt gi rfl).2; omega
                  have hbo9 := own_segR HBO.out HBLT.out (Nat.le_refl _) HST.out.2.2.1 (Nat.le_refl _)
                  have hszy := HST.out.2.2.2.2
                  have rw9 := (HWANT.out.below HST.out.2.2.2.1).mono (show lo ≤ wy.heap.size by omega)
                  have c8 := refSameR_any S3 S3 _ _ wy (Rd.of_own hbo9) rw9 (by omega)
                  rw [eqRB_self] at c8
                  have hwp : IntKind.i64.wrap ((S3.length : Int) + 70) = (S3.length : Int) + 70 := by rw [IntKind.wrap_i64]; omega
                  have hee : ((S3.length : Int) + 70 == (S3.length : Int) + 70) = true := by simp
                  have hw1 : IntKind.i64.wrap ((L.length : Int) + 1) = (L.length : Int) + 1 := by rw [IntKind.wrap_i64]; omega
                  have hJ1 : (0 : Int) ≤ (L.length : Int) + 1 := by omega
                  have hJ2 : (L.length : Int) + 1 ≤ (ci : Int) := by omega
                  have hJ3 : (L.length : Int) < (L.length : Int) + 1 := by omega
                  have rl := HL.out.below HWY.out
                  have C8 := Lib.hid c8
                  have E7 := Lib.hid e7
                  clear c8 e7 rw9 hbo9 hseg0 HST hin9
                  by_cases h8 : q < L.length
                  · obtain rfl : q = M.length := by omega
                    have hI8 : (M.length : Int) < (L.length : Int) := by omega
                    have hI9 : ¬ (M.length : Int) < (M.length : Int) := by omega
                    go_wp2_with fail
                    refine C8.out.mono ?_
                    rintro e w8 ⟨rfl, hb8⟩
                    have c9 := refSameR_any L L _ _ w8 (rd_upR rin hb8) ((rl.below (hb8.mono HWY.out.size)).mono (by have := HWY.out.size; have := hb8.size; omega)) (by omega)
                    rw [eqRB_self] at c9
                    go_wp2_with fail
                    refine c9.mono ?_
                    rintro e w9 ⟨rfl, hb9⟩
                    clear c9
                    have hb89 := below_call hb8 hb9
                    have e79 : w9.cell? ⟨gi, L.length * 9 + 3, none⟩ = some (.int .i64 7) := (hb89.cell (p := ⟨gi, L.length * 9 + 3, none⟩) hgi).trans E7.out
                    have hend := HWY.out.trans (hb89.mono HWY.out.size)
                    have HEND := Lib.hid hend
                    clear hend hb89 hb8 hb9
                    go_wp2
                    go_ret
                    exact ⟨rfl, HEND.out⟩
                  · obtain rfl : q = L.length := by omega
                    have hI8 : ¬ (L.length : Int) < (L.length : Int) := by omega
                    go_wp2_with fail
                    refine C8.out.mono ?_
                    rintro e w8 ⟨rfl, hb8⟩
                    have c9 := refSameR_any L L _ _ w8 (rd_upR rin hb8) ((rl.below (hb8.mono HWY.out.size)).mono (by have := HWY.out.size; have := hb8.size; omega)) (by omega)
                    rw [eqRB_self] at c9
                    go_wp2_with fail
                    refine c9.mono ?_
                    rintro e w9 ⟨rfl, hb9⟩
                    clear c9
                    have hb89 := below_call hb8 hb9
                    have e79 : w9.cell? ⟨gi, L.length * 9 + 3, none⟩ = some (.int .i64 7) := (hb89.cell (p := ⟨gi, L.length * 9 + 3, none⟩) hgi).trans E7.out
                    have hend := HWY.out.trans (hb89.mono HWY.out.size)
                    have HEND := Lib.hid hend
                    clear hend hb89 hb8 hb9
                    go_wp2
                    go_ret
                    exact ⟨rfl, HEND.out⟩
end Go.Proofs.Ytlhafehhkjjchaa
