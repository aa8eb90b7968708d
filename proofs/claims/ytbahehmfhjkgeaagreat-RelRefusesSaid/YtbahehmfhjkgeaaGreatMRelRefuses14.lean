/-
  Joined texts: LawRlRf, ElemH.
-/
import Derived.Test.YtbahehmfhjkgeaaGreatMRelRefuses13
import Derived.Deep.CutRange
import Derived.Test.YtbahehmfhjkgeaaGreatMRelRefuses3
import Derived.Test.YtbahehmfhjkgeaaGreatMRelRefuses11
import Derived.Deep.Fields
/-
  The walk of the law RelRefuses.
-/
namespace Go.Proofs.YtbahehmfhjkgeaaGreat
open Go Go.RowKit Go.ChangeMaps Go.MapKept Go.Maps Go.Lib Go.Sort

/-- The law's own blocks: the prefix, the header, what keeps, what is a set. -/
structure RrB (w0 : World) (A : Blks) (km bp bk bs kp : Nat) (pa pn : Int) (hd : Hd) : Prop where
  p : w0.heap[bp]? = some (.cells #[.int .u32 pa, .int .i64 pn] 39 (0, 0))
  h : w0.heap[bp + 1]? = some hd.cells
  k : w0.heap[bk]? = some (.cells #[.int .i64 kp] 3 (0, 0))
  s : w0.heap[bs]? = some (.cells #[.func (.func 28) #[] #[]] 96 (0, 0))
  fp : Foreign A w0 bp ∧ bp ≠ km
  fh : Foreign A w0 (bp + 1) ∧ bp + 1 ≠ km
  fk : Foreign A w0 bk ∧ bk ≠ km
  fs : Foreign A w0 bs ∧ bs ≠ km
theorem RrSt.kept {W0 W : World} {B S km : Nat} {A : Blks} {kp n m g : Nat} {o : Obj} (h : RrSt W0 B S km A kp n m W) (hf : Foreign A W0 g ∧ g ≠ km) (hg : W0.heap[g]? = some o) : W.heap[g]? = some o := by
  obtain ⟨σ, _, _, _, _, hk⟩ := h
  exact (hk.same _ hf.1 hf.2).1.trans hg
theorem RrSt.low {W0 W : World} {B S km : Nat} {A : Blks} {kp n m n' m' : Nat} (h0 : RrSt W0 B S km A kp n m W0) (h : RrSt W0 B S km A kp n' m' W) (hB : B ≤ km) : Below B W0 W := by
  obtain ⟨σ, hs, _⟩ := h0
  obtain ⟨_, _, _, _, _, hk⟩ := h
  exact hs.low hB hk
section
set_option maxRecDepth 100000
set_option maxHeartbeats 8000000
theorem lawRlRf_any (w : World) (a b f pa pn v : Int) (hd : Hd) (hp0 : 0 ≤ pa) (hp1 : pa < 4294967296) (hv0 : 0 ≤ v) (hv1 : v ≤ 4294967295) (hdo : hd.ok) :
    Calls Tryz.prog 6 #[.int .i64 a, .int .i64 b, .int .i64 f, .agg #[.int .u32 pa, .int .i64 pn], .int .u32 v, .agg #[.int .u32 hd.src, .int .u32 hd.dst, .int .u8 hd.proto, .int .u16 hd.sp, .int .u16 hd.dp]] w fun e w' => e = .returned (.bool true) ∧ Below w.heap.size w w' := by
  have hb0 := below2 w (.cells #[.int .u32 pa, .int .i64 pn] 39) hd.cells
  obtain ⟨k0, k1⟩ := blk2 w (.cells #[.int .u32 pa, .int .i64 pn] 39) hd.cells
  have HB0 := Lib.hid hb0
  have HP0 := Lib.hid (And.intro k0 k1)
  clear hb0 k0 k1
  go_enter Tryz.func6, Tryz.ntmps6
  go_upto_region 1 with fail
  change Code.wp _ _ _ _ ((w.alloc (.cells #[.int .u32 pa, .int .i64 pn] 39)).alloc hd.cells)
  generalize (w.alloc (.cells #[.int .u32 pa, .int .i64 pn] 39)).alloc hd.cells = w1 at *
  have HNEW := Lib.hid (show Calls Tryz.prog 8 #[.int .i64 4194304] w1 (fun e w' => ∃ (S km : Nat) (A : Blks), e = .returned (.tuple #[.pointer (some ⟨S, 0, none⟩), .int .i64 0]) ∧ SpAt w' w1.heap.size S km A 4194304 N0 [] [0, 1] [] ∧ Below w1.heap.size w1 w' ∧ w1.heap.size ≤ S ∧ w1.heap.size ≤ km) from relNew_any w1 4194304 (by omega))
  go_upto_region 4 with ((with_reducible refine HNEW.out.mono ?_); rintro e w2 ⟨S, km, A, rfl, hs2, hb2, hS2, hkm2⟩; have HS2 := Lib.hid hs2.newOk; have HB2 := Lib.hid hb2; have HLO := Lib.hid hkm2; clear hs2 hb2 hS2 hkm2)
  clear HNEW
  have h2 : newSg.N.length = 2 := rfl
  have HKP := Lib.hid (keep_any HS2.out (by omega))
  go_upto_region 5 with ((with_reducible refine HKP.out.mono ?_); rintro e w3 hr; have HK3 := Lib.hid hr.1; obtain ⟨kp, τ, rfl, hs3, ht3, hd3⟩ := hr.room (by simp [newSg]); have HS3 := Lib.hid hs3; have HT3 := Lib.hid ht3; have HD3 := Lib.hid hd3; clear hr hs3 ht3 hd3)
  clear HKP
  go_upto_region 7 with fail
  have hb3 := below2 w3 (.cells #[.int .i64 kp] 3) (.cells #[.nilFunc] 96)
  obtain ⟨k4, k5⟩ := blk2 w3 (.cells #[.int .i64 kp] 3) (.cells #[.nilFunc] 96)
  have hrs := @run_store_fn Tryz.prog
  have hcw := cell0 k5
  have hfw := frozen_of_row _ _ 0 _ _ k5
  go_upto_region 8 with fail
  have hb4 := below2 w3 (.cells #[.int .i64 kp] 3) (.cells #[.func (.func 28) #[] #[]] 96)
  clear k4 k5
  obtain ⟨k4, k5⟩ := blk2 w3 (.cells #[.int .i64 kp] 3) (.cells #[.func (.func 28) #[] #[]] 96)
  clear hb3 hrs hcw hfw
  have hkl := HD3.out.lt64 HS3.out.ok
  have hlow := HS2.out.low HLO.out HK3.out
  have hkm := HS3.out.sp.fk.1
  have hBB : Hid (RrB ((w3.alloc (.cells #[.int .i64 kp] 3)).alloc (.cells #[.func (.func 28) #[] #[]] 96)) A km w.heap.size w3.heap.size (w3.heap.size + 1) kp pa pn hd) := Lib.hid (by
    have l0 := lt_of_block HP0.out.1
    have l1 := lt_of_block HP0.out.2
    have q0 := blk_below HB2.out HP0.out.1
    have q1 := blk_below HB2.out HP0.out.2
    have r0 := (hlow.block _ l0).trans q0
    have r1 := (hlow.block _ l1).trans q1
    have f0 := (HS3.out.below hb4).foreign_low (k := w.heap.size) l0
    have f1 := (HS3.out.below hb4).foreign_low (k := w.heap.size + 1) l1
    have hlk := HLO.out
    exact ⟨blk_below hb4 r0, blk_below hb4 r1, k4, k5, ⟨f0, by omega⟩, ⟨f1, by omega⟩, ⟨HS3.out.sp.ar.foreign_new hb4 (Nat.le_refl _) (lt_of_block k4), by omega⟩, ⟨HS3.out.sp.ar.foreign_new hb4 (Nat.le_succ _) (lt_of_block k5), by omega⟩⟩)
  have HST : Hid (RrSt ((w3.alloc (.cells #[.int .i64 kp] 3)).alloc (.cells #[.func (.func 28) #[] #[]] 96)) w1.heap.size S km A kp 938 936 ((w3.alloc (.cells #[.int .i64 kp] 3)).alloc (.cells #[.func (.func 28) #[] #[]] 96))) := Lib.hid ⟨τ, HS3.out.below hb4, HD3.out, by have h1 := HT3.out.nl; rw [h2] at h1; omega, by have h1 := HT3.out.hl; have h3 : newSg.H.length = 0 := rfl; omega, KeptS.refl _ _ _⟩
  have HBW := Lib.hid (show Below w.heap.size w ((w3.alloc (.cells #[.int .i64 kp] 3)).alloc (.cells #[.func (.func 28) #[] #[]] 96)) from HB0.out.trans ((HB2.out.trans ((hlow.trans (hb4.mono (Nat.le_trans HB2.out.size HK3.out.size))).mono (Nat.le_refl _))).mono HB0.out.size))
  have HBLE : Hid (w.heap.size ≤ w1.heap.size) := Lib.hid HB0.out.size
  have HST0 := HST
  clear hb4 k4 k5 hlow hkm HS2 HB2 HK3 HS3 HT3 HD3 HB0 HP0
  generalize ((w3.alloc (.cells #[.int .i64 kp] 3)).alloc (.cells #[.func (.func 28) #[] #[]] 96)) = w5 at *
  generalize w1.heap.size = B at *
  generalize w3.heap.size = bk at *
  go_upto_region 9 with fail
  go_cut [69] from 64 to 69 (fun s69 wx => ∃ c : Bool, s69 = .bool c ∧ (c = true ↔ a < 0 ∨ 1 < a) ∧ Hid (RrSt w5 B S km A kp 938 936 wx))
  case first =>
    by_cases h0 : a < 0
    · go_wp2
      go_meet
      exact ⟨true, rfl, ⟨fun _ => .inl h0, fun _ => rfl⟩, HST⟩
    · by_cases h1 : 1 < a
      · have h1' : a > 1 := h1
        go_wp2
        go_meet
        exact ⟨true, rfl, ⟨fun _ => .inr h1, fun _ => rfl⟩, HST⟩
      · have h1' : ¬ a > 1 := h1
        go_wp2
        go_meet
        exact ⟨false, rfl, ⟨fun h => (by cases h), fun h => (by omega)⟩, HST⟩
  case rest =>
    obtain ⟨c, rfl, hc, HS6⟩ := hcut
    clear HST
    go_upto_if 69 with fail
    go_cut [0] from 70 to 76 (fun s0 wx => ∃ a' : Int, s0 = .int .i64 a' ∧ RrA kp a' ∧ Hid (RrSt w5 B S km A kp 938 936 wx))
    case first =>
      cases c
      · have hcf : ¬ (a < 0 ∨ 1 < a) := fun h => by have := hc.2 h; cases this
        go_wp2
        go_meet
        exact ⟨a, rfl, by rcases (show a = 0 ∨ a = 1 by omega) with h | h; exact .inl h; exact .inr (.inl h), HS6⟩
      · have ck := cell0 (HS6.out.kept hBB.out.fk hBB.out.k)
        have HV := Lib.hid (rrV2_any)
        by_cases hb : b.tmod 2 = 0
        · have hb2 : (b.tmod 2 == 0) = true := by simp [hb]
          go_wp2_with ((with_reducible refine (HV.out _ v hv0 hv1).mono ?_); rintro e w8 ⟨x, rfl, hx0, hx1, hbx⟩; have HS8 := Lib.hid (HS6.out.below hbx); clear hbx)
          go_meet
          exact ⟨_, rfl, .inr (.inr (.inr ⟨by omega, by omega⟩)), HS8⟩
        · have hb2 : (b.tmod 2 == 0) = false := by simp [hb]
          go_wp2
          go_meet
          exact ⟨_, rfl, .inr (.inr (.inl rfl)), HS6⟩
    case rest =>
      obtain ⟨a', rfl, HA, HS7⟩ := hcut
      have HAH := Lib.hid HA
      clear HA
      go_upto_region 14 with ((with_reducible refine (rr_and HS7.out HAH.out (by omega) (by omega)).mono ?_); rintro e x8 ⟨q8, rfl, hs⟩; have HS8 := Lib.hid hs; clear hs)
      clear HS7
      go_upto_region 15 with ((with_reducible refine (rr_or HS8.out HAH.out (by omega) (by omega)).mono ?_); rintro e x9 ⟨q9, rfl, hs⟩; have HS9 := Lib.hid hs; clear hs)
      clear HS8
      go_upto_region 16 with ((with_reducible refine (rr_less HS9.out HAH.out (by omega) (by omega)).mono ?_); rintro e x10 ⟨q10, rfl, hs⟩; have HS10 := Lib.hid hs; clear hs)
      clear HS9
      go_upto_region 17 with ((with_reducible refine (rr_not HS10.out HAH.out (by omega) (by omega)).mono ?_); rintro e x11 ⟨q11, rfl, hs⟩; have HS11 := Lib.hid hs; clear hs)
      clear HS10
      obtain ⟨d0, d1, d2, d3, d4⟩ := hd_cell (HS11.out.kept hBB.out.fh hBB.out.h)
      go_upto_region 18 with ((with_reducible refine (rr_has HS11.out HAH.out hd hdo).mono ?_); rintro e x12 ⟨q12, rfl, hs⟩; have HS12 := Lib.hid hs; clear hs)
      clear d0 d1 d2 d3 d4
      clear HS11
      go_upto_region 19 with ((with_reducible refine (rr_count HS12.out HAH.out).mono ?_); rintro e x13 ⟨cx, cy, rfl, hs⟩; have HS13 := Lib.hid hs; clear hs)
      have HT := Lib.hid (HS13.out.below (below1 x13 (.cells #[.int .u64 cx, .int .u64 cy] 85)))
      generalize x13.alloc (.cells #[.int .u64 cx, .int .u64 cy] 85) = y1 at *
      clear HS12
      go_upto_region 20 with ((with_reducible refine (rr_least HT.out HAH.out).mono ?_); rintro e x14 ⟨hl, rfl, hs⟩; have HS14 := Lib.hid hs; clear hs)
      have HU := Lib.hid (HS14.out.below (below1 x14 (.cells #[.int .u32 hl.src, .int .u32 hl.dst, .int .u8 hl.proto, .int .u16 hl.sp, .int .u16 hl.dp] 82)))
      generalize x14.alloc (.cells #[.int .u32 hl.src, .int .u32 hl.dst, .int .u8 hl.proto, .int .u16 hl.sp, .int .u16 hl.dp] 82) = y2 at *
      clear HT
      have ck := cell0 (HU.out.kept hBB.out.fk hBB.out.k)
      go_upto_region 21 with ((with_reducible refine (rr_where HU.out HAH.out (by omega) (by omega)).mono ?_); rintro e x15 ⟨q15, rfl, hs⟩; have HS15 := Lib.hid hs; clear hs)
      clear ck
      clear HU
      go_upto_region 22 with ((with_reducible refine (rr_where1 HS15.out HAH.out (by omega) (by omega)).mono ?_); rintro e x16 ⟨q16, rfl, hs⟩; have HS16 := Lib.hid hs; clear hs)
      clear HS15
      have ck := cell0 (HS16.out.kept hBB.out.fk hBB.out.k)
      go_upto_region 23 with ((with_reducible refine (rr_either HS16.out HAH.out (by omega) (by omega)).mono ?_); rintro e x17 ⟨q17, rfl, hs⟩; have HS17 := Lib.hid hs; clear hs)
      clear ck
      clear HS16
      obtain ⟨d0, d1, d2, d3, d4⟩ := hd_cell (HS17.out.kept hBB.out.fh hBB.out.h)
      go_upto_region 24 with ((with_reducible refine (rr_leads HS17.out HAH.out hd hdo).mono ?_); rintro e x18 ⟨q18, rfl, hs⟩; have HS18 := Lib.hid hs; clear hs)
      clear d0 d1 d2 d3 d4
      clear HS17
      have ck := cell0 (HS18.out.kept hBB.out.fk hBB.out.k)
      go_upto_region 25 with ((with_reducible refine (rr_image HS18.out HAH.out (by omega) (by omega)).mono ?_); rintro e x19 ⟨q19, rfl, hs⟩; have HS19 := Lib.hid hs; clear hs)
      clear ck
      clear HS18
      go_upto_region 26 with ((with_reducible refine (rr_preimage HS19.out HAH.out (by omega)).mono ?_); rintro e x20 ⟨q20, rfl, hs⟩; have HS20 := Lib.hid hs; clear hs)
      clear HS19
      have cs := cell0 (HS20.out.kept hBB.out.fs hBB.out.s)
      go_upto_if 165 with ((with_reducible refine (rrSet_any _ a').mono ?_); rintro e z1 ⟨b1, rfl, hb1, hbz⟩; have HZ1 := Lib.hid (HS20.out.below hbz); have HB1 := Lib.hid hb1; clear hbz hb1)
      clear cs HS20
      go_cut [44] from 165 to 165 (fun s44 wx => s44 = .int .i64 (rrE a') ∧ Hid (RrSt w5 B S km A kp (938 + 2 * 938 + (938 + 2 * 938)) 936 wx))
      case first =>
        cases b1
        · have he := Lib.hid (show rrE a' = 1 from if_neg (fun h => by have := HB1.out.2 h; simp at this))
          go_wp2
          go_meet
          exact ⟨by rw [he.out], HZ1⟩
        · have he := Lib.hid (show rrE a' = 0 from if_pos (HB1.out.1 rfl))
          go_wp2
          go_meet
          exact ⟨by rw [he.out], HZ1⟩
      case rest =>
        obtain ⟨rfl, HY1⟩ := hcut
        have cs := cell0 (HY1.out.kept hBB.out.fs hBB.out.s)
        have HKB := Lib.hid (HY1.out.kept hBB.out.fk hBB.out.k)
        go_upto_if 169 with ((with_reducible refine (rrNode_any _ a' kp (bk + 1) bk cs HKB.out).mono ?_); rintro e z2 ⟨b2, rfl, hb2, hbz⟩; have HZ2 := Lib.hid (HY1.out.below hbz); have HB2 := Lib.hid hb2; clear hbz hb2)
        clear cs HKB HY1
        go_cut [45] from 169 to 169 (fun s45 wx => s45 = .int .i64 (rrL kp a') ∧ Hid (RrSt w5 B S km A kp (938 + 2 * 938 + (938 + 2 * 938)) 936 wx))
        case first =>
          cases b2
          · have he := Lib.hid (show rrL kp a' = 1 from if_neg (fun h => by have := HB2.out.2 h; simp at this))
            go_wp2
            go_meet
            exact ⟨by rw [he.out], HZ2⟩
          · have he := Lib.hid (show rrL kp a' = 0 from if_pos (HB2.out.1 rfl))
            go_wp2
            go_meet
            exact ⟨by rw [he.out], HZ2⟩
        case rest =>
          obtain ⟨rfl, HY2⟩ := hcut
          go_upto_if 172 with fail
          go_cut [46] from 172 to 172 (fun s46 wx => s46 = .int .i64 (rrM a') ∧ Hid (RrSt w5 B S km A kp (938 + 2 * 938 + (938 + 2 * 938)) 936 wx))
          case first =>
            by_cases h0 : a' = 0
            · have he := Lib.hid (show rrM a' = 5 from if_pos h0)
              have hb0 : (a' == 0) = true := by simp [h0]
              clear h0
              go_wp2
              go_meet
              exact ⟨by rw [he.out], HY2⟩
            · have he := Lib.hid (show rrM a' = rrE a' from if_neg h0)
              have hb0 : (a' == 0) = false := by simp [h0]
              clear h0
              go_wp2
              go_meet
              exact ⟨by rw [he.out], HY2⟩
          case rest =>
            obtain ⟨rfl, HY3⟩ := hcut
            generalize rrE a' = ve at *
            generalize rrL kp a' = vl at *
            generalize rrM a' = vm at *
            have hve : (ve != ve) = false := by simp
            have hvl : (vl != vl) = false := by simp
            have hvm : (vm != vm) = false := by simp
            go_upto_region 37 with fail
            obtain ⟨p0, p1, _, _⟩ := two_cells (HY3.out.kept hBB.out.fp hBB.out.p)
            go_upto_region 38 with ((with_reducible refine (rr_prefix HY3.out (by omega) (by omega) f pa pn hp0 hp1).mono ?_); rintro e x1 ⟨q1, rfl, hs⟩; have HP1 := Lib.hid hs; clear hs)
            clear p0 p1 HY3
            go_upto_region 39 with ((with_reducible refine (rr_numbers HP1.out (by omega) (by omega) f).mono ?_); rintro e x2 ⟨q2, rfl, hs⟩; have HP2 := Lib.hid hs; clear hs)
            clear HP1
            go_upto_region 40 with ((with_reducible refine (rr_put HP2.out (by omega) (by omega) f v hv0 hv1).mono ?_); rintro e x3 ⟨q3, rfl, hs⟩; have HP3 := Lib.hid hs; clear hs)
            clear HP2
            obtain ⟨p0, p1, _, _⟩ := two_cells (HP3.out.kept hBB.out.fp hBB.out.p)
            go_upto_region 41 with ((with_reducible refine (refCheck_any pa pn _ hp0 hp1).mono ?_); rintro e x4 ⟨rfl, hbx⟩; have HP4 := Lib.hid (HP3.out.below hbx); clear hbx)
            clear p0 p1 HP3
            have HBE := Lib.hid (HBW.out.trans ((RrSt.low HST0.out HP4.out HLO.out).mono HBLE.out))
            clear HP4 HBW HST0 HLO hBB
            by_cases hn : f < 0
            · have e0 : (f != 0) = true := by simp; omega
              have e1 : (f != 1) = true := by simp; omega
              have hP : rrP f pa pn = 1 := if_pos ⟨by omega, by omega⟩
              have hF : rrF f = 1 := if_pos (.inl hn)
              have hU : rrU f v = 1 := if_pos (.inl hn)
              simp only [hP, hF, hU]
              clear hP hF hU
              go_wp2_with ((with_reducible refine (rrAwake_any _).mono ?_); rintro e y9 ⟨rfl, hby⟩; have HBY := Lib.hid (HBE.out.trans (hby.mono HBE.out.size)); clear hby)
              go_ret
              exact ⟨rfl, HBY.out⟩
            by_cases hg : f > 4
            · have e0 : (f != 0) = true := by simp; omega
              have e1 : (f != 1) = true := by simp; omega
              have hP : rrP f pa pn = 1 := if_pos ⟨by omega, by omega⟩
              have hF : rrF f = 1 := if_pos (.inr hg)
              have hU : rrU f v = 1 := if_pos (.inr hg)
              simp only [hP, hF, hU]
              clear hP hF hU
              go_wp2_with ((with_reducible refine (rrAwake_any _).mono ?_); rintro e y9 ⟨rfl, hby⟩; have HBY := Lib.hid (HBE.out.trans (hby.mono HBE.out.size)); clear hby)
              go_ret
              exact ⟨rfl, HBY.out⟩
            rcases (show f = 0 ∨ f = 1 ∨ f = 2 ∨ f = 3 ∨ f = 4 by omega) with rfl | rfl | rfl | rfl | rfl
            · clear hn hg
              have hvv : ¬ v > 4294967295 := by omega
              have hP : rrP 0 pa pn = chk pa pn := if_neg (by omega)
              have hF : rrF 0 = 0 := if_neg (by omega)
              have hU : rrU 0 v = 0 := by show (if ((4294967295 : Int) < v) then (1 : Int) else 0) = 0; rw [if_neg (by omega)]
              simp only [hP, hF, hU]
              clear hP hF hU
              generalize chk pa pn = vc at *
              have hvc : (vc == vc) = true := by simp
              go_wp2_with (first | ((with_reducible refine (refMost0 _).mono ?_); rintro e y8 ⟨rfl, hby⟩; have HB8 := Lib.hid (HBE.out.trans (hby.mono HBE.out.size)); clear hby) | ((with_reducible refine (rrAwake_any _).mono ?_); rintro e y9 ⟨rfl, hby⟩; have HBY := Lib.hid (HB8.out.trans (hby.mono HB8.out.size)); clear hby))
              go_ret
              exact ⟨rfl, HBY.out⟩
            · clear hn hg
              have hvv : ¬ v > 4294967295 := by omega
              have hP : rrP 1 pa pn = chk pa pn := if_neg (by omega)
              have hF : rrF 1 = 0 := if_neg (by omega)
              have hU : rrU 1 v = 0 := by show (if ((4294967295 : Int) < v) then (1 : Int) else 0) = 0; rw [if_neg (by omega)]
              simp only [hP, hF, hU]
              clear hP hF hU
              generalize chk pa pn = vc at *
              have hvc : (vc == vc) = true := by simp
              go_wp2_with (first | ((with_reducible refine (refMost1 _).mono ?_); rintro e y8 ⟨rfl, hby⟩; have HB8 := Lib.hid (HBE.out.trans (hby.mono HBE.out.size)); clear hby) | ((with_reducible refine (rrAwake_any _).mono ?_); rintro e y9 ⟨rfl, hby⟩; have HBY := Lib.hid (HB8.out.trans (hby.mono HB8.out.size)); clear hby))
              go_ret
              exact ⟨rfl, HBY.out⟩
            · clear hn hg
              by_cases hvv : v > 255
              · have hP : rrP 2 pa pn = 1 := if_pos ⟨by omega, by omega⟩
                have hF : rrF 2 = 0 := if_neg (by omega)
                have hU : rrU 2 v = 1 := by show (if ((255 : Int) < v) then (1 : Int) else 0) = 1; rw [if_pos (by omega)]
                simp only [hP, hF, hU]
                clear hP hF hU
                go_wp2_with (first | ((with_reducible refine (refMost2 _).mono ?_); rintro e y8 ⟨rfl, hby⟩; have HB8 := Lib.hid (HBE.out.trans (hby.mono HBE.out.size)); clear hby) | ((with_reducible refine (rrAwake_any _).mono ?_); rintro e y9 ⟨rfl, hby⟩; have HBY := Lib.hid (HB8.out.trans (hby.mono HB8.out.size)); clear hby))
                go_ret
                exact ⟨rfl, HBY.out⟩
              · have hP : rrP 2 pa pn = 1 := if_pos ⟨by omega, by omega⟩
                have hF : rrF 2 = 0 := if_neg (by omega)
                have hU : rrU 2 v = 0 := by show (if ((255 : Int) < v) then (1 : Int) else 0) = 0; rw [if_neg (by omega)]
                simp only [hP, hF, hU]
                clear hP hF hU
                go_wp2_with (first | ((with_reducible refine (refMost2 _).mono ?_); rintro e y8 ⟨rfl, hby⟩; have HB8 := Lib.hid (HBE.out.trans (hby.mono HBE.out.size)); clear hby) | ((with_reducible refine (rrAwake_any _).mono ?_); rintro e y9 ⟨rfl, hby⟩; have HBY := Lib.hid (HB8.out.trans (hby.mono HB8.out.size)); clear hby))
                go_ret
                exact ⟨rfl, HBY.out⟩
            · clear hn hg
              by_cases hvv : v > 65535
              · have hP : rrP 3 pa pn = 1 := if_pos ⟨by omega, by omega⟩
                have hF : rrF 3 = 0 := if_neg (by omega)
                have hU : rrU 3 v = 1 := by show (if ((65535 : Int) < v) then (1 : Int) else 0) = 1; rw [if_pos (by omega)]
                simp only [hP, hF, hU]
                clear hP hF hU
                go_wp2_with (first | ((with_reducible refine (refMost3 _).mono ?_); rintro e y8 ⟨rfl, hby⟩; have HB8 := Lib.hid (HBE.out.trans (hby.mono HBE.out.size)); clear hby) | ((with_reducible refine (rrAwake_any _).mono ?_); rintro e y9 ⟨rfl, hby⟩; have HBY := Lib.hid (HB8.out.trans (hby.mono HB8.out.size)); clear hby))
                go_ret
                exact ⟨rfl, HBY.out⟩
              · have hP : rrP 3 pa pn = 1 := if_pos ⟨by omega, by omega⟩
                have hF : rrF 3 = 0 := if_neg (by omega)
                have hU : rrU 3 v = 0 := by show (if ((65535 : Int) < v) then (1 : Int) else 0) = 0; rw [if_neg (by omega)]
                simp only [hP, hF, hU]
                clear hP hF hU
                go_wp2_with (first | ((with_reducible refine (refMost3 _).mono ?_); rintro e y8 ⟨rfl, hby⟩; have HB8 := Lib.hid (HBE.out.trans (hby.mono HBE.out.size)); clear hby) | ((with_reducible refine (rrAwake_any _).mono ?_); rintro e y9 ⟨rfl, hby⟩; have HBY := Lib.hid (HB8.out.trans (hby.mono HB8.out.size)); clear hby))
                go_ret
                exact ⟨rfl, HBY.out⟩
            · clear hn hg
              by_cases hvv : v > 65535
              · have hP : rrP 4 pa pn = 1 := if_pos ⟨by omega, by omega⟩
                have hF : rrF 4 = 0 := if_neg (by omega)
                have hU : rrU 4 v = 1 := by show (if ((65535 : Int) < v) then (1 : Int) else 0) = 1; rw [if_pos (by omega)]
                simp only [hP, hF, hU]
                clear hP hF hU
                go_wp2_with (first | ((with_reducible refine (refMost4 _).mono ?_); rintro e y8 ⟨rfl, hby⟩; have HB8 := Lib.hid (HBE.out.trans (hby.mono HBE.out.size)); clear hby) | ((with_reducible refine (rrAwake_any _).mono ?_); rintro e y9 ⟨rfl, hby⟩; have HBY := Lib.hid (HB8.out.trans (hby.mono HB8.out.size)); clear hby))
                go_ret
                exact ⟨rfl, HBY.out⟩
              · have hP : rrP 4 pa pn = 1 := if_pos ⟨by omega, by omega⟩
                have hF : rrF 4 = 0 := if_neg (by omega)
                have hU : rrU 4 v = 0 := by show (if ((65535 : Int) < v) then (1 : Int) else 0) = 0; rw [if_neg (by omega)]
                simp only [hP, hF, hU]
                clear hP hF hU
                go_wp2_with (first | ((with_reducible refine (refMost4 _).mono ?_); rintro e y8 ⟨rfl, hby⟩; have HB8 := Lib.hid (HBE.out.trans (hby.mono HBE.out.size)); clear hby) | ((with_reducible refine (rrAwake_any _).mono ?_); rintro e y9 ⟨rfl, hby⟩; have HBY := Lib.hid (HB8.out.trans (hby.mono HB8.out.size)); clear hby))
                go_ret
                exact ⟨rfl, HBY.out⟩
end
end Go.Proofs.YtbahehmfhjkgeaaGreat

/-
  The cells of headers and of their bytes, as parameters (written by wip/gen/genelemh.py).
-/
namespace Go.Proofs.YtbahehmfhjkgeaaGreat
open Go Go.RowKit Go.ChangeShapes Go.WideShapes Go.Deep

set_option maxHeartbeats 1000000 in
theorem elem_hd {H : Type} {enc : TypeId × Value → H} {w : World} {base : Nat} {spare : Nat → Bool} {held : Bool} (n : Nat) (cs : List Value) (x : DataW H × List MemPlace) (h : DataW.trod enc Tryz.prog w base spare held n 82 cs = some x) : ∃ r : Hd, r.ok ∧ cs = r.enc := by
  obtain ⟨l0, m0, s0⟩ := sub_at Tryz.underlying82 h
  rw [show Tryz.prog.cellsOf 82 = 5 from by kernel_rfl] at l0
  obtain ⟨c0, c1, c2, c3, c4, rfl⟩ : ∃ c0 c1 c2 c3 c4, cs = [c0, c1, c2, c3, c4] := by
    match cs, l0 with
    | [c0, c1, c2, c3, c4], _ => exact ⟨c0, c1, c2, c3, c4, rfl⟩
  obtain ⟨_, g1⟩ := s0 0 _ 0 37 1 rfl rfl rfl (by kernel_rfl)
  replace g1 : DataW.trod enc Tryz.prog w base spare held m0 37 [c0] = some _ := g1
  obtain ⟨v0, e0, _, w0⟩ := DataW.trod_int Tryz.underlying37 g1
  have b0 := bounds_u32 w0
  obtain rfl := (List.cons.inj e0).1
  obtain ⟨_, g2⟩ := s0 1 _ 1 37 1 rfl rfl rfl (by kernel_rfl)
  replace g2 : DataW.trod enc Tryz.prog w base spare held m0 37 [c1] = some _ := g2
  obtain ⟨v1, e1, _, w1⟩ := DataW.trod_int Tryz.underlying37 g2
  have b1 := bounds_u32 w1
  obtain rfl := (List.cons.inj e1).1
  obtain ⟨_, g3⟩ := s0 2 _ 2 5 1 rfl rfl rfl (by kernel_rfl)
  replace g3 : DataW.trod enc Tryz.prog w base spare held m0 5 [c2] = some _ := g3
  obtain ⟨v2, e2, _, w2⟩ := DataW.trod_int Tryz.underlying5 g3
  have b2 := bounds_u8 w2
  obtain rfl := (List.cons.inj e2).1
  obtain ⟨_, g4⟩ := s0 3 _ 3 80 1 rfl rfl rfl (by kernel_rfl)
  replace g4 : DataW.trod enc Tryz.prog w base spare held m0 80 [c3] = some _ := g4
  obtain ⟨v3, e3, _, w3⟩ := DataW.trod_int Tryz.underlying80 g4
  have b3 := bounds_u16 w3
  obtain rfl := (List.cons.inj e3).1
  obtain ⟨_, g5⟩ := s0 4 _ 4 80 1 rfl rfl rfl (by kernel_rfl)
  replace g5 : DataW.trod enc Tryz.prog w base spare held m0 80 [c4] = some _ := g5
  obtain ⟨v4, e4, _, w4⟩ := DataW.trod_int Tryz.underlying80 g5
  have b4 := bounds_u16 w4
  obtain rfl := (List.cons.inj e4).1
  exact ⟨⟨v0, v1, v2, v3, v4⟩, ⟨b0.1, by dsimp only; omega, b1.1, by dsimp only; omega, b2.1, by dsimp only; omega, b3.1, by dsimp only; omega, b4.1, by dsimp only; omega⟩, rfl⟩
section
variable {H : Type} {enc : TypeId × Value → H} {P : Program} {w : World} {base : Nat} {spare : Nat → Bool} {held : Bool}
end
end Go.Proofs.YtbahehmfhjkgeaaGreat
