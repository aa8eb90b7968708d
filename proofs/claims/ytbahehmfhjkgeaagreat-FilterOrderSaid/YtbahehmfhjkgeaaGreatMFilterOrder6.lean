/-
  Joined texts: Rb6.
-/
import Derived.Test.YtbahehmfhjkgeaaGreatMFilterOrder4
import Derived.Test.YtbahehmfhjkgeaaGreatMFilterOrder5
/-
  The headers whose field is in a set (written by wip/gen/genrb6.py).
-/
namespace Go.Proofs.YtbahehmfhjkgeaaGreat
open Go Go.RowKit Go.ChangeMaps Go.MapKept Go.Maps Go.Lib Go.Sort

/-- The field's bits are in a span. -/
def spanF (a n : Nat) (lo hi : Nat) : Fun := fun s => reachF a n lo true n s && reachF a n hi false n s
def numsF (a n M : Nat) (T : List SpanV) : Fun := fun s => T.any fun x => spanF a n x.lo.toNat (min x.hi.toNat M) s
theorem owns_le {w : World} {base n k : Nat} {e : TypeId} {v : Value} {xs : List Value} (h : w.ownsRow base e k v n xs) : n ≤ 1099511627776 * 1099511627776 ∧ (n : Int) ≤ 9223372036854775807 := by
  rcases h.2 with ⟨_, h2⟩ | ⟨g, cap, cur, _, _, _, h2, h3, _⟩
  · omega
  · unfold maxLen at h3; omega
theorem numsF_snoc (a n M : Nat) (T : List SpanV) (x : SpanV) : numsF a n M (T ++ [x]) = fun s => numsF a n M T s || spanF a n x.lo.toNat (min x.hi.toNat M) s := funext fun s => by
  simp [numsF]
theorem spanF_cut (a n lo hi u : Nat) : CutLe (spanF a n lo hi) u 9 := (reachF_cut a n lo u true n (Nat.le_refl _)).op2 (fun x y => x && y) (reachF_cut a n hi u false n (Nat.le_refl _))
theorem spanF_seg (a n lo hi : Nat) : Hangs (spanF a n lo hi) (2 * a) (2 * (a + n)) := ((reachF_hangs a n lo true n (Nat.le_refl _)).op2 (fun x y => x && y) (reachF_hangs a n hi false n (Nat.le_refl _))).mono (by omega) (Nat.le_refl _)
theorem spanF_wid (a n lo hi : Nat) (h : a + n ≤ 104) (hn : n ≤ 32) : Wid (spanF a n lo hi) 576 := (Wid.seg (spanF_seg a n lo hi) (by omega) (spanF_cut a n lo hi)).mono (by omega)
theorem SpRes.laid {w w1 w2 : World} {B S km : Nat} {A : Blks} {Mo : Nat} {σ : Sg} {F : Fun} {k m : Nat} {e : Ending} (h : SpRes w B S km A Mo σ F k m e w1) (hb : Below w1.heap.size w1 w2) : SpRes w B S km A Mo σ F k m e w2 := by
  obtain ⟨h1, h2⟩ := h
  rcases h2 with ⟨e1, e2, τ, e3, e4⟩ | ⟨r, τ, e1, e3, e4, e5⟩
  · exact ⟨h1.trans (e3.kept hb), .inl ⟨e1, e2, τ, e3.below hb, e4⟩⟩
  · exact ⟨h1.trans (e3.kept hb), .inr ⟨r, τ, e1, e3.below hb, e4, e5⟩⟩
section
variable {w : World} {B S km : Nat} {A : Blks} {Mo : Nat} {σ : Sg}
set_option maxRecDepth 100000
set_option maxHeartbeats 8000000
theorem numbers2_yes (h : SpOk w B S km A Mo σ) (L : List SpanV) (vl : Value) (hL : Rd w w.heap.size 2 vl L.length (scells L)) (hlen : L.length ≤ 1099511627776) (T U : List SpanV) (hR : formOf L = T ++ U) (hT : ∀ x ∈ T, x.lo ≤ 255) (hU : U = [] ∨ ∃ u U', U = u :: U' ∧ 255 < u.lo) (K : Nat)
    (hK : ∀ k, k ≤ T.length → Wid (numsF 64 8 255 (T.take k)) K) (hl : σ.N.length + T.length * (K + 608) ≤ 2147483647) :
    Calls Tryz.prog 39 #[.pointer (some ⟨S, 0, none⟩), .int .i64 2, vl] w (SpRes w B S km A Mo σ (numsF 64 8 255 T) (T.length * (K + 608)) (T.length * (K + 608))) := by
  have p0 : ∀ W : World, (W.alloc partsObj).cell? ⟨W.heap.size, 4, none⟩ = some (.int .i64 64) := fun W => (parts_at W 2 (by omega)).1
  have p1 : ∀ W : World, (W.alloc partsObj).cell? ⟨W.heap.size, 5, none⟩ = some (.int .i64 8) := fun W => (parts_at W 2 (by omega)).2
  have HS := Lib.hid h
  have HL := Lib.hid hL
  have HR := Lib.hid (And.intro hR (And.intro hT hU))
  have HK := Lib.hid hK
  have HLEN := Lib.hid hlen
  clear h hL hR hT hU hK hlen
  go_enter Tryz.func39, Tryz.ntmps39
  go_upto_region 6 with (go_at_call 98; (with_reducible refine (parts_any _).mono ?_); rintro e _ ⟨rfl, rfl⟩)
  have HB2 := Lib.hid (below2 w partsObj (.cells #[.int .i64 64, .int .i64 8] 175))
  have hk2 := blk1 (w.alloc partsObj) (.cells #[.int .i64 64, .int .i64 8] 175)
  have hs2 : (w.alloc partsObj).heap.size = w.heap.size + 1 := by simp
  rw [hs2] at hk2
  have HF2 := Lib.hid (HS.out.sp.ar.foreign_new HB2.out (k := w.heap.size + 1) (by omega) (lt_of_block hk2))
  have HNE : Hid (w.heap.size + 1 ≠ km) := Lib.hid (by have := HS.out.sp.fk.1; omega)
  have HS2 := Lib.hid (HS.out.below HB2.out)
  have HK2 := Lib.hid (HS.out.kept HB2.out)
  have HL2 := Lib.hid ((HL.out.below HB2.out).mono HB2.out.size)
  have b0 : ((w.alloc partsObj).alloc (.cells #[.int .i64 64, .int .i64 8] 175)).cell? ⟨w.heap.size + 1, 0, none⟩ = some (.int .i64 64) := cell_of_row _ _ 0 _ _ (0, 0) hk2
  have b1 : ((w.alloc partsObj).alloc (.cells #[.int .i64 64, .int .i64 8] 175)).cell? ⟨w.heap.size + 1, 1, none⟩ = some (.int .i64 8) := cell_of_row _ _ 1 _ _ (0, 0) hk2
  have HBK := Lib.hid hk2
  clear HB2 hk2 hs2 p0 p1 HS
  generalize (w.alloc partsObj).alloc (.cells #[.int .i64 64, .int .i64 8] 175) = w2 at *
  have HFM := Lib.hid (form_any L vl w2 HL2.out HLEN.out)
  rw [HR.out.1] at HFM
  have HLT : Hid (∀ k, k < T.length → ∃ x, (T ++ U)[k]? = some x ∧ T[k]? = some x ∧ x.lo ≤ 255) := Lib.hid fun k hk => by
    refine ⟨T[k], ?_, ?_, HR.out.2.1 _ (List.getElem_mem hk)⟩
    · rw [List.getElem?_append_left hk, List.getElem?_eq_getElem hk]
    · rw [List.getElem?_eq_getElem hk]
  have HEND : Hid ((T ++ U).length = T.length ∨ ∃ x, (T ++ U)[T.length]? = some x ∧ 255 < x.lo ∧ T.length < (T ++ U).length) := Lib.hid (by
    rcases HR.out.2.2 with rfl | ⟨u, U', rfl, hu⟩
    · exact .inl (by simp)
    · exact .inr ⟨u, by simp, hu, by simp⟩)
  have HTL : Hid (T.length ≤ (T ++ U).length) := Lib.hid (by simp)
  clear HR HL HL2 HLEN
  generalize T ++ U = R at *
  go_upto_region 9 with ((with_reducible refine HFM.out.mono ?_); rintro e w3 ⟨v3, rfl, ho3, hb3⟩; have HO3 := Lib.hid ho3; have HB3 := Lib.hid hb3; obtain ⟨A3, c3, hv3, hA3⟩ := owns_form ho3; subst hv3; have HA3 := Lib.hid hA3; clear hA3 ho3 hb3)
  have HS3 := Lib.hid (HS2.out.below HB3.out)
  have HK3 := Lib.hid (HK2.out.trans (HS2.out.kept HB3.out))
  have hk3 := blk_below HB3.out HBK.out
  have HF3 := Lib.hid (((HS2.out.kept HB3.out).same _ HF2.out HNE.out).2)
  have HBX : Hid (∀ W, KeptS A km w3 W → W.cell? ⟨w.heap.size + 1, 0, none⟩ = some (.int .i64 64) ∧ W.cell? ⟨w.heap.size + 1, 1, none⟩ = some (.int .i64 8)) := Lib.hid fun W hW => by
    have hk := (hW.same _ HF3.out HNE.out).1.trans hk3
    exact ⟨cell_of_row W _ 0 _ _ (0, 0) hk, cell_of_row W _ 1 _ _ (0, 0) hk⟩
  have HROW : Hid (∀ (k : Nat) (x : SpanV), R[k]? = some x → ∃ g, A3 = some ⟨g, 0, none⟩ ∧ ∀ W, KeptS A km w3 W → W.cell? ⟨g, k * 2, none⟩ = some (.int .u32 x.lo) ∧ W.cell? ⟨g, k * 2 + 1, none⟩ = some (.int .u32 x.hi)) := Lib.hid fun k x hx => by
    have hk := (List.getElem?_eq_some_iff.1 hx).1
    obtain ⟨g, rfl⟩ := HA3.out (by omega)
    have hlg := HO3.out.lt g rfl
    have hgf := HS2.out.sp.ar.foreign_new HB3.out hlg.1 hlg.2
    have hgk : g ≠ km := by have := HS2.out.sp.fk.1; omega
    refine ⟨g, rfl, fun W hW => ⟨(World.cell?_of_block (hW.same _ hgf hgk).1).trans ?_, (World.cell?_of_block (hW.same _ hgf hgk).1).trans ?_⟩⟩
    · exact (HO3.out.cellAt (k * 2) (by omega)).trans (scell (i := 0) hx rfl)
    · exact (HO3.out.cellAt (k * 2 + 1) (by omega)).trans (scell (i := 1) hx rfl)
  have hrl := (owns_le HO3.out).2
  clear HB3 hk3 HF3 HBK HO3 HA3 HF2 HS2 HK2 HFM b0 b1 HNE
  go_wp2
  go_loopw [10, 35] (fun r i wr => ∃ k : Nat, i = .int .i64 k ∧ k ≤ T.length ∧ ∃ (q : Nat) (τ : Sg), r = .int .i64 q ∧ Hid (SpOk wr B S km A Mo τ) ∧ Hid (To (k * (K + 608)) (k * (K + 608)) σ τ) ∧ Hid (Den τ q (numsF 64 8 255 (T.take k))) ∧ Hid (KeptS A km w3 wr)) (fun _ i _ => R.length - (intOf i).toNat)
  case atStart => exact ⟨0, rfl, by omega, 0, σ, rfl, HS3, Lib.hid (by rw [Nat.zero_mul]; exact To.refl σ), Lib.hid (Den.zero HS3.out.ok), Lib.hid (KeptS.refl _ _ _)⟩
  case round =>
    obtain ⟨k, rfl, hk, q, τ, rfl, HSR, HTR, HDR, HKR⟩ := hrel
    have htl := HTL.out
    by_cases hlt : k < T.length
    · have hI : (k : Int) < (R.length : Int) := by omega
      obtain ⟨x, hx, hxT, hxM⟩ := HLT.out k hlt
      obtain ⟨g, rfl, hrow⟩ := HROW.out k x hx
      obtain ⟨r0, r1⟩ := hrow wr HKR.out
      obtain ⟨lo, hlo⟩ : ∃ lo : Nat, x.lo = lo := ⟨x.lo.toNat, by have := x.hlo; omega⟩
      obtain ⟨hi, hhi⟩ : ∃ hi : Nat, x.hi = hi := ⟨x.hi.toNat, by have := x.hhi; omega⟩
      have hlb := x.hlo
      have hhb := x.hhi
      have HTK : Hid (numsF 64 8 255 (T.take (k + 1)) = fun s => numsF 64 8 255 (T.take k) s || spanF 64 8 lo (min hi 255) s) := Lib.hid (by
        rw [List.take_add_one, hxT]
        show numsF 64 8 255 (T.take k ++ [x]) = _
        rw [numsF_snoc, hlo, hhi]
        rfl)
      rw [hlo] at r0 hxM hlb
      rw [hhi] at r1 hhb
      have hl1 : (lo : Int) ≤ 4294967295 := by omega
      have hl2 : (hi : Int) ≤ 4294967295 := by omega
      have hcmp : ¬ (lo : Int) > 255 := by omega
      have hm1 : (k + 1) * (K + 608) ≤ T.length * (K + 608) := Nat.mul_le_mul_right _ hlt
      have hm2 : (k + 1) * (K + 608) = k * (K + 608) + (K + 608) := by rw [Nat.add_mul, Nat.one_mul]
      have HM := Lib.hid (And.intro hm1 hm2)
      clear hx hxT hlo hhi hrow hm1 hm2 hxM hlb hhb
      go_upto_region 11 with fail
      have hbs := below1 wr (.cells #[.int .u32 lo, .int .u32 hi] 41)
      have hks := blk1 wr (.cells #[.int .u32 lo, .int .u32 hi] 41)
      have HF4 := Lib.hid (HSR.out.sp.ar.foreign_new hbs (Nat.le_refl _) (lt_of_block hks))
      have HN4 : Hid (wr.heap.size ≠ km) := Lib.hid (by have := HSR.out.sp.fk.1; omega)
      have HS4 := Lib.hid (HSR.out.below hbs)
      have HK4 := Lib.hid (HKR.out.trans (HSR.out.kept hbs))
      have HBS : Hid (∀ W, KeptS A km (wr.alloc (.cells #[.int .u32 lo, .int .u32 hi] 41)) W → W.cell? ⟨wr.heap.size, 0, none⟩ = some (.int .u32 lo) ∧ W.cell? ⟨wr.heap.size, 1, none⟩ = some (.int .u32 hi)) := Lib.hid fun W hW => by
        have hk := (hW.same _ HF4.out HN4.out).1.trans hks
        exact ⟨cell_of_row W _ 0 _ _ (0, 0) hk, cell_of_row W _ 1 _ _ (0, 0) hk⟩
      clear hbs hks HF4 HN4 r0 r1
      generalize wr.alloc (.cells #[.int .u32 lo, .int .u32 hi] 41) = w4 at *
      obtain ⟨s0, s1⟩ := HBS.out w4 (KeptS.refl _ _ _)
      obtain ⟨b0, b1⟩ := HBX.out w4 HK4.out
      have hnl := HTR.out.nl
      have hm := HM.out
      have HRA := Lib.hid (show Calls Tryz.prog 100 #[.pointer (some ⟨S, 0, none⟩), .agg #[.int .i64 64, .int .i64 8], .int .u64 lo, .bool true] w4 (SpRes w4 B S km A Mo τ (reachF 64 8 lo true 8) (2 * 8) (2 * 8)) from reach_any HS4.out 64 8 lo true (by omega) (by omega) (by omega) (by omega))
      clear hnl hm
      go_upto_region 13 with ((with_reducible refine HRA.out.mono ?_); rintro e w5 hr5; obtain ⟨q5, c5, he5⟩ := hr5.form; have HR5 := Lib.hid hr5; subst he5; clear hr5)
      rcases HR5.out.two with ⟨rfl, rfl, hlt5, τ5, hs5, ht5⟩ | ⟨r5, τ5, rfl, rfl, hs5, ht5, hd5⟩
      · have HFIN := Lib.hid (SpRes.full (F := numsF 64 8 255 T) (HK3.out.trans (HK4.out.trans HR5.out.1)) rfl (by have := HTR.out.hl; have := HM.out; omega) hs5 ((HTR.out.trans ht5).mono (show k * (K + 608) + 2 * 8 ≤ T.length * (K + 608) by have := HM.out; omega) (show k * (K + 608) + 2 * 8 ≤ T.length * (K + 608) by have := HM.out; omega)))
        clear hlt5 hs5 ht5
        go_wp2
        go_ret2
        exact HFIN.out
      · have HS5 := Lib.hid hs5
        have HT5 := Lib.hid (HTR.out.trans ht5)
        have HD5 := Lib.hid hd5
        have HDQ5 := Lib.hid (HDR.out.to ht5 HSR.out.ok hs5.ok)
        have HKS5 := Lib.hid HR5.out.1
        have HK5 := Lib.hid (HK4.out.trans HR5.out.1)
        clear hs5 ht5 hd5 HR5 HRA s0 s1 b0 b1
        obtain ⟨s0, s1⟩ := HBS.out w5 HKS5.out
        obtain ⟨b0, b1⟩ := HBX.out w5 HK5.out
        have hnl := HT5.out.nl
        have hm := HM.out
        have HRB := Lib.hid (show Calls Tryz.prog 100 #[.pointer (some ⟨S, 0, none⟩), .agg #[.int .i64 64, .int .i64 8], .int .u64 (min (hi : Int) 255), .bool false] w5 (SpRes w5 B S km A Mo τ5 (reachF 64 8 (min hi 255) false 8) (2 * 8) (2 * 8)) from by
          rw [show min (hi : Int) 255 = ((min hi 255 : Nat) : Int) by omega]
          exact reach_any HS5.out 64 8 (min hi 255) false (by omega) (by omega) (by omega) (by omega))
        clear hnl hm
        go_upto_region 16 with ((with_reducible refine HRB.out.mono ?_); rintro e w6 hr6; obtain ⟨q6, c6, he6⟩ := hr6.form; have HR6 := Lib.hid hr6; subst he6; clear hr6)
        rcases HR6.out.two with ⟨rfl, rfl, hlt6, τ6, hs6, ht6⟩ | ⟨r6, τ6, rfl, rfl, hs6, ht6, hd6⟩
        · have HFIN := Lib.hid (SpRes.full (F := numsF 64 8 255 T) (HK3.out.trans (HK5.out.trans HR6.out.1)) rfl (by have := HT5.out.hl; have := HM.out; omega) hs6 ((HT5.out.trans ht6).mono (show k * (K + 608) + 2 * 8 + 2 * 8 ≤ T.length * (K + 608) by have := HM.out; omega) (show k * (K + 608) + 2 * 8 + 2 * 8 ≤ T.length * (K + 608) by have := HM.out; omega)))
          clear hlt6 hs6 ht6
          go_wp2
          go_ret2
          exact HFIN.out
        · have HS6 := Lib.hid hs6
          have HT6 := Lib.hid (HT5.out.trans ht6)
          have HDQ6 := Lib.hid (HDQ5.out.to ht6 HS5.out.ok hs6.ok)
          have HK6 := Lib.hid (HK5.out.trans HR6.out.1)
          have c6 := hs6.sp.c0
          have hnl := HT6.out.nl
          have hm := HM.out
          have HAN := Lib.hid (show Calls Tryz.prog 55 #[.pointer (some ⟨A.a, 0, none⟩), .int .i64 r5, .int .i64 r6] w6 (SpRes w6 B S km A Mo τ6 (spanF 64 8 lo (min hi 255)) 576 576) from hs6.and (HD5.out.to ht6 HS5.out.ok hs6.ok) hd6 (a := 576) (b := 576) (Grow.wid hs6.ok.wf.two (spanF_wid 64 8 lo (min hi 255) (by omega) (by omega))) (by omega))
          clear hs6 ht6 hd6 HR6 HRB s0 s1 b0 b1 hnl hm HS5 HT5 HD5 HDQ5 HKS5 HK5
          go_upto_region 19 with ((with_reducible refine HAN.out.mono ?_); rintro e w7 hr7; obtain ⟨q7, c7, he7⟩ := hr7.form; have HR7 := Lib.hid hr7; subst he7; clear hr7)
          rcases HR7.out.two with ⟨rfl, rfl, hlt7, τ7, hs7, ht7⟩ | ⟨r7, τ7, rfl, rfl, hs7, ht7, hd7⟩
          · have HFIN := Lib.hid (SpRes.full (F := numsF 64 8 255 T) (HK3.out.trans (HK6.out.trans HR7.out.1)) rfl (by have := HT6.out.hl; have := HM.out; omega) hs7 ((HT6.out.trans ht7).mono (show k * (K + 608) + 2 * 8 + 2 * 8 + 576 ≤ T.length * (K + 608) by have := HM.out; omega) (show k * (K + 608) + 2 * 8 + 2 * 8 + 576 ≤ T.length * (K + 608) by have := HM.out; omega)))
            clear hlt7 hs7 ht7
            go_wp2
            go_ret2
            exact HFIN.out
          · have HS7 := Lib.hid hs7
            have HT7 := Lib.hid (HT6.out.trans ht7)
            have HDQ7 := Lib.hid (HDQ6.out.to ht7 HS6.out.ok hs7.ok)
            have HK7 := Lib.hid (HK6.out.trans HR7.out.1)
            have c7 := hs7.sp.c0
            have hnl := HT7.out.nl
            have hm := HM.out
            have hwk := HK.out (k + 1) (by omega)
            rw [HTK.out] at hwk
            have HOR := Lib.hid (show Calls Tryz.prog 90 #[.pointer (some ⟨A.a, 0, none⟩), .int .i64 q, .int .i64 r7] w7 (SpRes w7 B S km A Mo τ7 (fun s => numsF 64 8 255 (T.take k) s || spanF 64 8 lo (min hi 255) s) K K) from hs7.or HDQ7.out hd7 (a := K) (b := K) (Grow.wid hs7.ok.wf.two hwk) (by omega))
            clear hs7 ht7 hd7 HR7 HAN hnl hm hwk HS6 HT6 HDQ6 HK6
            go_upto_region 22 with ((with_reducible refine HOR.out.mono ?_); rintro e w8 hr8; obtain ⟨q8, c8, he8⟩ := hr8.form; have HR8 := Lib.hid hr8; subst he8; clear hr8)
            rcases HR8.out.two with ⟨rfl, rfl, hlt8, τ8, hs8, ht8⟩ | ⟨r8, τ8, rfl, rfl, hs8, ht8, hd8⟩
            · have HFIN := Lib.hid (SpRes.full (F := numsF 64 8 255 T) (HK3.out.trans (HK7.out.trans HR8.out.1)) rfl (by have := HT7.out.hl; have := HM.out; omega) hs8 ((HT7.out.trans ht8).mono (show k * (K + 608) + 2 * 8 + 2 * 8 + 576 + K ≤ T.length * (K + 608) by have := HM.out; omega) (show k * (K + 608) + 2 * 8 + 2 * 8 + 576 + K ≤ T.length * (K + 608) by have := HM.out; omega)))
              clear hlt8 hs8 ht8
              go_wp2
              go_ret2
              exact HFIN.out
            · have HS8 := Lib.hid hs8
              have HT8 := Lib.hid ((HT7.out.trans ht8).mono (show k * (K + 608) + 2 * 8 + 2 * 8 + 576 + K ≤ (k + 1) * (K + 608) by have := HM.out; omega) (show k * (K + 608) + 2 * 8 + 2 * 8 + 576 + K ≤ (k + 1) * (K + 608) by have := HM.out; omega))
              have HD8 : Hid (Den τ8 r8 (numsF 64 8 255 (T.take (k + 1)))) := Lib.hid (by rw [HTK.out]; exact hd8)
              have HK8 := Lib.hid (HK7.out.trans HR8.out.1)
              clear hs8 ht8 hd8 HR8 HOR HS7 HT7 HDQ7 HK7
              go_wp2
              exact ⟨⟨k + 1, by go_num, by omega, r8, τ8, rfl, HS8, HT8, HD8, HK8⟩, by simp only [intOf]; omega⟩
    · obtain rfl : k = T.length := by omega
      have hfd := HDR.out
      rw [List.take_length] at hfd
      have HFIN : Hid (SpRes w B S km A Mo σ (numsF 64 8 255 T) (T.length * (K + 608)) (T.length * (K + 608)) (.returned (.tuple #[.int .i64 q, .int .i64 0])) wr) := Lib.hid ⟨HK3.out.trans HKR.out, .inr ⟨q, τ, rfl, HSR.out, HTR.out, hfd⟩⟩
      clear hfd
      rcases HEND.out with hend | ⟨x, hx, hxl, hlen⟩
      · have hI : ¬ (T.length : Int) < (R.length : Int) := by omega
        clear hend
        go_wp2
        go_ret2
        exact HFIN.out
      · have hI : (T.length : Int) < (R.length : Int) := by omega
        obtain ⟨g, rfl, hrow⟩ := HROW.out T.length x hx
        obtain ⟨r0, r1⟩ := hrow wr HKR.out
        obtain ⟨lo, hlo⟩ : ∃ lo : Nat, x.lo = lo := ⟨x.lo.toNat, by have := x.hlo; omega⟩
        obtain ⟨hi, hhi⟩ : ∃ hi : Nat, x.hi = hi := ⟨x.hi.toNat, by have := x.hhi; omega⟩
        have hlb := x.hlo
        have hhb := x.hhi
        rw [hlo] at r0 hxl hlb
        rw [hhi] at r1 hhb
        have hl1 : (lo : Int) ≤ 4294967295 := by omega
        have hl2 : (hi : Int) ≤ 4294967295 := by omega
        have hcmp : (lo : Int) > 255 := by omega
        have hbs := below1 wr (.cells #[.int .u32 lo, .int .u32 hi] 41)
        have HS4 := Lib.hid (SpRes.laid HFIN.out hbs)
        have s0 : (wr.alloc (.cells #[.int .u32 lo, .int .u32 hi] 41)).cell? ⟨wr.heap.size, 0, none⟩ = some (.int .u32 lo) := cell_of_row _ _ 0 _ _ (0, 0) (blk1 wr _)
        obtain ⟨b0, b1⟩ := HBX.out _ (HKR.out.trans (HSR.out.kept hbs))
        clear hx hrow hxl hlen hlo hhi hlb hhb hbs
        go_wp2
        go_ret2
        exact HS4.out
theorem numbers3_yes (h : SpOk w B S km A Mo σ) (L : List SpanV) (vl : Value) (hL : Rd w w.heap.size 2 vl L.length (scells L)) (hlen : L.length ≤ 1099511627776) (T U : List SpanV) (hR : formOf L = T ++ U) (hT : ∀ x ∈ T, x.lo ≤ 65535) (hU : U = [] ∨ ∃ u U', U = u :: U' ∧ 65535 < u.lo) (K : Nat)
    (hK : ∀ k, k ≤ T.length → Wid (numsF 72 16 65535 (T.take k)) K) (hl : σ.N.length + T.length * (K + 640) ≤ 2147483647) :
    Calls Tryz.prog 39 #[.pointer (some ⟨S, 0, none⟩), .int .i64 3, vl] w (SpRes w B S km A Mo σ (numsF 72 16 65535 T) (T.length * (K + 640)) (T.length * (K + 640))) := by
  have p0 : ∀ W : World, (W.alloc partsObj).cell? ⟨W.heap.size, 6, none⟩ = some (.int .i64 72) := fun W => (parts_at W 3 (by omega)).1
  have p1 : ∀ W : World, (W.alloc partsObj).cell? ⟨W.heap.size, 7, none⟩ = some (.int .i64 16) := fun W => (parts_at W 3 (by omega)).2
  have HS := Lib.hid h
  have HL := Lib.hid hL
  have HR := Lib.hid (And.intro hR (And.intro hT hU))
  have HK := Lib.hid hK
  have HLEN := Lib.hid hlen
  clear h hL hR hT hU hK hlen
  go_enter Tryz.func39, Tryz.ntmps39
  go_upto_region 6 with (go_at_call 98; (with_reducible refine (parts_any _).mono ?_); rintro e _ ⟨rfl, rfl⟩)
  have HB2 := Lib.hid (below2 w partsObj (.cells #[.int .i64 72, .int .i64 16] 175))
  have hk2 := blk1 (w.alloc partsObj) (.cells #[.int .i64 72, .int .i64 16] 175)
  have hs2 : (w.alloc partsObj).heap.size = w.heap.size + 1 := by simp
  rw [hs2] at hk2
  have HF2 := Lib.hid (HS.out.sp.ar.foreign_new HB2.out (k := w.heap.size + 1) (by omega) (lt_of_block hk2))
  have HNE : Hid (w.heap.size + 1 ≠ km) := Lib.hid (by have := HS.out.sp.fk.1; omega)
  have HS2 := Lib.hid (HS.out.below HB2.out)
  have HK2 := Lib.hid (HS.out.kept HB2.out)
  have HL2 := Lib.hid ((HL.out.below HB2.out).mono HB2.out.size)
  have b0 : ((w.alloc partsObj).alloc (.cells #[.int .i64 72, .int .i64 16] 175)).cell? ⟨w.heap.size + 1, 0, none⟩ = some (.int .i64 72) := cell_of_row _ _ 0 _ _ (0, 0) hk2
  have b1 : ((w.alloc partsObj).alloc (.cells #[.int .i64 72, .int .i64 16] 175)).cell? ⟨w.heap.size + 1, 1, none⟩ = some (.int .i64 16) := cell_of_row _ _ 1 _ _ (0, 0) hk2
  have HBK := Lib.hid hk2
  clear HB2 hk2 hs2 p0 p1 HS
  generalize (w.alloc partsObj).alloc (.cells #[.int .i64 72, .int .i64 16] 175) = w2 at *
  have HFM := Lib.hid (form_any L vl w2 HL2.out HLEN.out)
  rw [HR.out.1] at HFM
  have HLT : Hid (∀ k, k < T.length → ∃ x, (T ++ U)[k]? = some x ∧ T[k]? = some x ∧ x.lo ≤ 65535) := Lib.hid fun k hk => by
    refine ⟨T[k], ?_, ?_, HR.out.2.1 _ (List.getElem_mem hk)⟩
    · rw [List.getElem?_append_left hk, List.getElem?_eq_getElem hk]
    · rw [List.getElem?_eq_getElem hk]
  have HEND : Hid ((T ++ U).length = T.length ∨ ∃ x, (T ++ U)[T.length]? = some x ∧ 65535 < x.lo ∧ T.length < (T ++ U).length) := Lib.hid (by
    rcases HR.out.2.2 with rfl | ⟨u, U', rfl, hu⟩
    · exact .inl (by simp)
    · exact .inr ⟨u, by simp, hu, by simp⟩)
  have HTL : Hid (T.length ≤ (T ++ U).length) := Lib.hid (by simp)
  clear HR HL HL2 HLEN
  generalize T ++ U = R at *
  go_upto_region 9 with ((with_reducible refine HFM.out.mono ?_); rintro e w3 ⟨v3, rfl, ho3, hb3⟩; have HO3 := Lib.hid ho3; have HB3 := Lib.hid hb3; obtain ⟨A3, c3, hv3, hA3⟩ := owns_form ho3; subst hv3; have HA3 := Lib.hid hA3; clear hA3 ho3 hb3)
  have HS3 := Lib.hid (HS2.out.below HB3.out)
  have HK3 := Lib.hid (HK2.out.trans (HS2.out.kept HB3.out))
  have hk3 := blk_below HB3.out HBK.out
  have HF3 := Lib.hid (((HS2.out.kept HB3.out).same _ HF2.out HNE.out).2)
  have HBX : Hid (∀ W, KeptS A km w3 W → W.cell? ⟨w.heap.size + 1, 0, none⟩ = some (.int .i64 72) ∧ W.cell? ⟨w.heap.size + 1, 1, none⟩ = some (.int .i64 16)) := Lib.hid fun W hW => by
    have hk := (hW.same _ HF3.out HNE.out).1.trans hk3
    exact ⟨cell_of_row W _ 0 _ _ (0, 0) hk, cell_of_row W _ 1 _ _ (0, 0) hk⟩
  have HROW : Hid (∀ (k : Nat) (x : SpanV), R[k]? = some x → ∃ g, A3 = some ⟨g, 0, none⟩ ∧ ∀ W, KeptS A km w3 W → W.cell? ⟨g, k * 2, none⟩ = some (.int .u32 x.lo) ∧ W.cell? ⟨g, k * 2 + 1, none⟩ = some (.int .u32 x.hi)) := Lib.hid fun k x hx => by
    have hk := (List.getElem?_eq_some_iff.1 hx).1
    obtain ⟨g, rfl⟩ := HA3.out (by omega)
    have hlg := HO3.out.lt g rfl
    have hgf := HS2.out.sp.ar.foreign_new HB3.out hlg.1 hlg.2
    have hgk : g ≠ km := by have := HS2.out.sp.fk.1; omega
    refine ⟨g, rfl, fun W hW => ⟨(World.cell?_of_block (hW.same _ hgf hgk).1).trans ?_, (World.cell?_of_block (hW.same _ hgf hgk).1).trans ?_⟩⟩
    · exact (HO3.out.cellAt (k * 2) (by omega)).trans (scell (i := 0) hx rfl)
    · exact (HO3.out.cellAt (k * 2 + 1) (by omega)).trans (scell (i := 1) hx rfl)
  have hrl := (owns_le HO3.out).2
  clear HB3 hk3 HF3 HBK HO3 HA3 HF2 HS2 HK2 HFM b0 b1 HNE
  go_wp2
  go_loopw [10, 35] (fun r i wr => ∃ k : Nat, i = .int .i64 k ∧ k ≤ T.length ∧ ∃ (q : Nat) (τ : Sg), r = .int .i64 q ∧ Hid (SpOk wr B S km A Mo τ) ∧ Hid (To (k * (K + 640)) (k * (K + 640)) σ τ) ∧ Hid (Den τ q (numsF 72 16 65535 (T.take k))) ∧ Hid (KeptS A km w3 wr)) (fun _ i _ => R.length - (intOf i).toNat)
  case atStart => exact ⟨0, rfl, by omega, 0, σ, rfl, HS3, Lib.hid (by rw [Nat.zero_mul]; exact To.refl σ), Lib.hid (Den.zero HS3.out.ok), Lib.hid (KeptS.refl _ _ _)⟩
  case round =>
    obtain ⟨k, rfl, hk, q, τ, rfl, HSR, HTR, HDR, HKR⟩ := hrel
    have htl := HTL.out
    by_cases hlt : k < T.length
    · have hI : (k : Int) < (R.length : Int) := by omega
      obtain ⟨x, hx, hxT, hxM⟩ := HLT.out k hlt
      obtain ⟨g, rfl, hrow⟩ := HROW.out k x hx
      obtain ⟨r0, r1⟩ := hrow wr HKR.out
      obtain ⟨lo, hlo⟩ : ∃ lo : Nat, x.lo = lo := ⟨x.lo.toNat, by have := x.hlo; omega⟩
      obtain ⟨hi, hhi⟩ : ∃ hi : Nat, x.hi = hi := ⟨x.hi.toNat, by have := x.hhi; omega⟩
      have hlb := x.hlo
      have hhb := x.hhi
      have HTK : Hid (numsF 72 16 65535 (T.take (k + 1)) = fun s => numsF 72 16 65535 (T.take k) s || spanF 72 16 lo (min hi 65535) s) := Lib.hid (by
        rw [List.take_add_one, hxT]
        show numsF 72 16 65535 (T.take k ++ [x]) = _
        rw [numsF_snoc, hlo, hhi]
        rfl)
      rw [hlo] at r0 hxM hlb
      rw [hhi] at r1 hhb
      have hl1 : (lo : Int) ≤ 4294967295 := by omega
      have hl2 : (hi : Int) ≤ 4294967295 := by omega
      have hcmp : ¬ (lo : Int) > 65535 := by omega
      have hm1 : (k + 1) * (K + 640) ≤ T.length * (K + 640) := Nat.mul_le_mul_right _ hlt
      have hm2 : (k + 1) * (K + 640) = k * (K + 640) + (K + 640) := by rw [Nat.add_mul, Nat.one_mul]
      have HM := Lib.hid (And.intro hm1 hm2)
      clear hx hxT hlo hhi hrow hm1 hm2 hxM hlb hhb
      go_upto_region 11 with fail
      have hbs := below1 wr (.cells #[.int .u32 lo, .int .u32 hi] 41)
      have hks := blk1 wr (.cells #[.int .u32 lo, .int .u32 hi] 41)
      have HF4 := Lib.hid (HSR.out.sp.ar.foreign_new hbs (Nat.le_refl _) (lt_of_block hks))
      have HN4 : Hid (wr.heap.size ≠ km) := Lib.hid (by have := HSR.out.sp.fk.1; omega)
      have HS4 := Lib.hid (HSR.out.below hbs)
      have HK4 := Lib.hid (HKR.out.trans (HSR.out.kept hbs))
      have HBS : Hid (∀ W, KeptS A km (wr.alloc (.cells #[.int .u32 lo, .int .u32 hi] 41)) W → W.cell? ⟨wr.heap.size, 0, none⟩ = some (.int .u32 lo) ∧ W.cell? ⟨wr.heap.size, 1, none⟩ = some (.int .u32 hi)) := Lib.hid fun W hW => by
        have hk := (hW.same _ HF4.out HN4.out).1.trans hks
        exact ⟨cell_of_row W _ 0 _ _ (0, 0) hk, cell_of_row W _ 1 _ _ (0, 0) hk⟩
      clear hbs hks HF4 HN4 r0 r1
      generalize wr.alloc (.cells #[.int .u32 lo, .int .u32 hi] 41) = w4 at *
      obtain ⟨s0, s1⟩ := HBS.out w4 (KeptS.refl _ _ _)
      obtain ⟨b0, b1⟩ := HBX.out w4 HK4.out
      have hnl := HTR.out.nl
      have hm := HM.out
      have HRA := Lib.hid (show Calls Tryz.prog 100 #[.pointer (some ⟨S, 0, none⟩), .agg #[.int .i64 72, .int .i64 16], .int .u64 lo, .bool true] w4 (SpRes w4 B S km A Mo τ (reachF 72 16 lo true 16) (2 * 16) (2 * 16)) from reach_any HS4.out 72 16 lo true (by omega) (by omega) (by omega) (by omega))
      clear hnl hm
      go_upto_region 13 with ((with_reducible refine HRA.out.mono ?_); rintro e w5 hr5; obtain ⟨q5, c5, he5⟩ := hr5.form; have HR5 := Lib.hid hr5; subst he5; clear hr5)
      rcases HR5.out.two with ⟨rfl, rfl, hlt5, τ5, hs5, ht5⟩ | ⟨r5, τ5, rfl, rfl, hs5, ht5, hd5⟩
      · have HFIN := Lib.hid (SpRes.full (F := numsF 72 16 65535 T) (HK3.out.trans (HK4.out.trans HR5.out.1)) rfl (by have := HTR.out.hl; have := HM.out; omega) hs5 ((HTR.out.trans ht5).mono (show k * (K + 640) + 2 * 16 ≤ T.length * (K + 640) by have := HM.out; omega) (show k * (K + 640) + 2 * 16 ≤ T.length * (K + 640) by have := HM.out; omega)))
        clear hlt5 hs5 ht5
        go_wp2
        go_ret2
        exact HFIN.out
      · have HS5 := Lib.hid hs5
        have HT5 := Lib.hid (HTR.out.trans ht5)
        have HD5 := Lib.hid hd5
        have HDQ5 := Lib.hid (HDR.out.to ht5 HSR.out.ok hs5.ok)
        have HKS5 := Lib.hid HR5.out.1
        have HK5 := Lib.hid (HK4.out.trans HR5.out.1)
        clear hs5 ht5 hd5 HR5 HRA s0 s1 b0 b1
        obtain ⟨s0, s1⟩ := HBS.out w5 HKS5.out
        obtain ⟨b0, b1⟩ := HBX.out w5 HK5.out
        have hnl := HT5.out.nl
        have hm := HM.out
        have HRB := Lib.hid (show Calls Tryz.prog 100 #[.pointer (some ⟨S, 0, none⟩), .agg #[.int .i64 72, .int .i64 16], .int .u64 (min (hi : Int) 65535), .bool false] w5 (SpRes w5 B S km A Mo τ5 (reachF 72 16 (min hi 65535) false 16) (2 * 16) (2 * 16)) from by
          rw [show min (hi : Int) 65535 = ((min hi 65535 : Nat) : Int) by omega]
          exact reach_any HS5.out 72 16 (min hi 65535) false (by omega) (by omega) (by omega) (by omega))
        clear hnl hm
        go_upto_region 16 with ((with_reducible refine HRB.out.mono ?_); rintro e w6 hr6; obtain ⟨q6, c6, he6⟩ := hr6.form; have HR6 := Lib.hid hr6; subst he6; clear hr6)
        rcases HR6.out.two with ⟨rfl, rfl, hlt6, τ6, hs6, ht6⟩ | ⟨r6, τ6, rfl, rfl, hs6, ht6, hd6⟩
        · have HFIN := Lib.hid (SpRes.full (F := numsF 72 16 65535 T) (HK3.out.trans (HK5.out.trans HR6.out.1)) rfl (by have := HT5.out.hl; have := HM.out; omega) hs6 ((HT5.out.trans ht6).mono (show k * (K + 640) + 2 * 16 + 2 * 16 ≤ T.length * (K + 640) by have := HM.out; omega) (show k * (K + 640) + 2 * 16 + 2 * 16 ≤ T.length * (K + 640) by have := HM.out; omega)))
          clear hlt6 hs6 ht6
          go_wp2
          go_ret2
          exact HFIN.out
        · have HS6 := Lib.hid hs6
          have HT6 := Lib.hid (HT5.out.trans ht6)
          have HDQ6 := Lib.hid (HDQ5.out.to ht6 HS5.out.ok hs6.ok)
          have HK6 := Lib.hid (HK5.out.trans HR6.out.1)
          have c6 := hs6.sp.c0
          have hnl := HT6.out.nl
          have hm := HM.out
          have HAN := Lib.hid (show Calls Tryz.prog 55 #[.pointer (some ⟨A.a, 0, none⟩), .int .i64 r5, .int .i64 r6] w6 (SpRes w6 B S km A Mo τ6 (spanF 72 16 lo (min hi 65535)) 576 576) from hs6.and (HD5.out.to ht6 HS5.out.ok hs6.ok) hd6 (a := 576) (b := 576) (Grow.wid hs6.ok.wf.two (spanF_wid 72 16 lo (min hi 65535) (by omega) (by omega))) (by omega))
          clear hs6 ht6 hd6 HR6 HRB s0 s1 b0 b1 hnl hm HS5 HT5 HD5 HDQ5 HKS5 HK5
          go_upto_region 19 with ((with_reducible refine HAN.out.mono ?_); rintro e w7 hr7; obtain ⟨q7, c7, he7⟩ := hr7.form; have HR7 := Lib.hid hr7; subst he7; clear hr7)
          rcases HR7.out.two with ⟨rfl, rfl, hlt7, τ7, hs7, ht7⟩ | ⟨r7, τ7, rfl, rfl, hs7, ht7, hd7⟩
          · have HFIN := Lib.hid (SpRes.full (F := numsF 72 16 65535 T) (HK3.out.trans (HK6.out.trans HR7.out.1)) rfl (by have := HT6.out.hl; have := HM.out; omega) hs7 ((HT6.out.trans ht7).mono (show k * (K + 640) + 2 * 16 + 2 * 16 + 576 ≤ T.length * (K + 640) by have := HM.out; omega) (show k * (K + 640) + 2 * 16 + 2 * 16 + 576 ≤ T.length * (K + 640) by have := HM.out; omega)))
            clear hlt7 hs7 ht7
            go_wp2
            go_ret2
            exact HFIN.out
          · have HS7 := Lib.hid hs7
            have HT7 := Lib.hid (HT6.out.trans ht7)
            have HDQ7 := Lib.hid (HDQ6.out.to ht7 HS6.out.ok hs7.ok)
            have HK7 := Lib.hid (HK6.out.trans HR7.out.1)
            have c7 := hs7.sp.c0
            have hnl := HT7.out.nl
            have hm := HM.out
            have hwk := HK.out (k + 1) (by omega)
            rw [HTK.out] at hwk
            have HOR := Lib.hid (show Calls Tryz.prog 90 #[.pointer (some ⟨A.a, 0, none⟩), .int .i64 q, .int .i64 r7] w7 (SpRes w7 B S km A Mo τ7 (fun s => numsF 72 16 65535 (T.take k) s || spanF 72 16 lo (min hi 65535) s) K K) from hs7.or HDQ7.out hd7 (a := K) (b := K) (Grow.wid hs7.ok.wf.two hwk) (by omega))
            clear hs7 ht7 hd7 HR7 HAN hnl hm hwk HS6 HT6 HDQ6 HK6
            go_upto_region 22 with ((with_reducible refine HOR.out.mono ?_); rintro e w8 hr8; obtain ⟨q8, c8, he8⟩ := hr8.form; have HR8 := Lib.hid hr8; subst he8; clear hr8)
            rcases HR8.out.two with ⟨rfl, rfl, hlt8, τ8, hs8, ht8⟩ | ⟨r8, τ8, rfl, rfl, hs8, ht8, hd8⟩
            · have HFIN := Lib.hid (SpRes.full (F := numsF 72 16 65535 T) (HK3.out.trans (HK7.out.trans HR8.out.1)) rfl (by have := HT7.out.hl; have := HM.out; omega) hs8 ((HT7.out.trans ht8).mono (show k * (K + 640) + 2 * 16 + 2 * 16 + 576 + K ≤ T.length * (K + 640) by have := HM.out; omega) (show k * (K + 640) + 2 * 16 + 2 * 16 + 576 + K ≤ T.length * (K + 640) by have := HM.out; omega)))
              clear hlt8 hs8 ht8
              go_wp2
              go_ret2
              exact HFIN.out
            · have HS8 := Lib.hid hs8
              have HT8 := Lib.hid ((HT7.out.trans ht8).mono (show k * (K + 640) + 2 * 16 + 2 * 16 + 576 + K ≤ (k + 1) * (K + 640) by have := HM.out; omega) (show k * (K + 640) + 2 * 16 + 2 * 16 + 576 + K ≤ (k + 1) * (K + 640) by have := HM.out; omega))
              have HD8 : Hid (Den τ8 r8 (numsF 72 16 65535 (T.take (k + 1)))) := Lib.hid (by rw [HTK.out]; exact hd8)
              have HK8 := Lib.hid (HK7.out.trans HR8.out.1)
              clear hs8 ht8 hd8 HR8 HOR HS7 HT7 HDQ7 HK7
              go_wp2
              exact ⟨⟨k + 1, by go_num, by omega, r8, τ8, rfl, HS8, HT8, HD8, HK8⟩, by simp only [intOf]; omega⟩
    · obtain rfl : k = T.length := by omega
      have hfd := HDR.out
      rw [List.take_length] at hfd
      have HFIN : Hid (SpRes w B S km A Mo σ (numsF 72 16 65535 T) (T.length * (K + 640)) (T.length * (K + 640)) (.returned (.tuple #[.int .i64 q, .int .i64 0])) wr) := Lib.hid ⟨HK3.out.trans HKR.out, .inr ⟨q, τ, rfl, HSR.out, HTR.out, hfd⟩⟩
      clear hfd
      rcases HEND.out with hend | ⟨x, hx, hxl, hlen⟩
      · have hI : ¬ (T.length : Int) < (R.length : Int) := by omega
        clear hend
        go_wp2
        go_ret2
        exact HFIN.out
      · have hI : (T.length : Int) < (R.length : Int) := by omega
        obtain ⟨g, rfl, hrow⟩ := HROW.out T.length x hx
        obtain ⟨r0, r1⟩ := hrow wr HKR.out
        obtain ⟨lo, hlo⟩ : ∃ lo : Nat, x.lo = lo := ⟨x.lo.toNat, by have := x.hlo; omega⟩
        obtain ⟨hi, hhi⟩ : ∃ hi : Nat, x.hi = hi := ⟨x.hi.toNat, by have := x.hhi; omega⟩
        have hlb := x.hlo
        have hhb := x.hhi
        rw [hlo] at r0 hxl hlb
        rw [hhi] at r1 hhb
        have hl1 : (lo : Int) ≤ 4294967295 := by omega
        have hl2 : (hi : Int) ≤ 4294967295 := by omega
        have hcmp : (lo : Int) > 65535 := by omega
        have hbs := below1 wr (.cells #[.int .u32 lo, .int .u32 hi] 41)
        have HS4 := Lib.hid (SpRes.laid HFIN.out hbs)
        have s0 : (wr.alloc (.cells #[.int .u32 lo, .int .u32 hi] 41)).cell? ⟨wr.heap.size, 0, none⟩ = some (.int .u32 lo) := cell_of_row _ _ 0 _ _ (0, 0) (blk1 wr _)
        obtain ⟨b0, b1⟩ := HBX.out _ (HKR.out.trans (HSR.out.kept hbs))
        clear hx hrow hxl hlen hlo hhi hlb hhb hbs
        go_wp2
        go_ret2
        exact HS4.out
theorem numbers4_yes (h : SpOk w B S km A Mo σ) (L : List SpanV) (vl : Value) (hL : Rd w w.heap.size 2 vl L.length (scells L)) (hlen : L.length ≤ 1099511627776) (T U : List SpanV) (hR : formOf L = T ++ U) (hT : ∀ x ∈ T, x.lo ≤ 65535) (hU : U = [] ∨ ∃ u U', U = u :: U' ∧ 65535 < u.lo) (K : Nat)
    (hK : ∀ k, k ≤ T.length → Wid (numsF 88 16 65535 (T.take k)) K) (hl : σ.N.length + T.length * (K + 640) ≤ 2147483647) :
    Calls Tryz.prog 39 #[.pointer (some ⟨S, 0, none⟩), .int .i64 4, vl] w (SpRes w B S km A Mo σ (numsF 88 16 65535 T) (T.length * (K + 640)) (T.length * (K + 640))) := by
  have p0 : ∀ W : World, (W.alloc partsObj).cell? ⟨W.heap.size, 8, none⟩ = some (.int .i64 88) := fun W => (parts_at W 4 (by omega)).1
  have p1 : ∀ W : World, (W.alloc partsObj).cell? ⟨W.heap.size, 9, none⟩ = some (.int .i64 16) := fun W => (parts_at W 4 (by omega)).2
  have HS := Lib.hid h
  have HL := Lib.hid hL
  have HR := Lib.hid (And.intro hR (And.intro hT hU))
  have HK := Lib.hid hK
  have HLEN := Lib.hid hlen
  clear h hL hR hT hU hK hlen
  go_enter Tryz.func39, Tryz.ntmps39
  go_upto_region 6 with (go_at_call 98; (with_reducible refine (parts_any _).mono ?_); rintro e _ ⟨rfl, rfl⟩)
  have HB2 := Lib.hid (below2 w partsObj (.cells #[.int .i64 88, .int .i64 16] 175))
  have hk2 := blk1 (w.alloc partsObj) (.cells #[.int .i64 88, .int .i64 16] 175)
  have hs2 : (w.alloc partsObj).heap.size = w.heap.size + 1 := by simp
  rw [hs2] at hk2
  have HF2 := Lib.hid (HS.out.sp.ar.foreign_new HB2.out (k := w.heap.size + 1) (by omega) (lt_of_block hk2))
  have HNE : Hid (w.heap.size + 1 ≠ km) := Lib.hid (by have := HS.out.sp.fk.1; omega)
  have HS2 := Lib.hid (HS.out.below HB2.out)
  have HK2 := Lib.hid (HS.out.kept HB2.out)
  have HL2 := Lib.hid ((HL.out.below HB2.out).mono HB2.out.size)
  have b0 : ((w.alloc partsObj).alloc (.cells #[.int .i64 88, .int .i64 16] 175)).cell? ⟨w.heap.size + 1, 0, none⟩ = some (.int .i64 88) := cell_of_row _ _ 0 _ _ (0, 0) hk2
  have b1 : ((w.alloc partsObj).alloc (.cells #[.int .i64 88, .int .i64 16] 175)).cell? ⟨w.heap.size + 1, 1, none⟩ = some (.int .i64 16) := cell_of_row _ _ 1 _ _ (0, 0) hk2
  have HBK := Lib.hid hk2
  clear HB2 hk2 hs2 p0 p1 HS
  generalize (w.alloc partsObj).alloc (.cells #[.int .i64 88, .int .i64 16] 175) = w2 at *
  have HFM := Lib.hid (form_any L vl w2 HL2.out HLEN.out)
  rw [HR.out.1] at HFM
  have HLT : Hid (∀ k, k < T.length → ∃ x, (T ++ U)[k]? = some x ∧ T[k]? = some x ∧ x.lo ≤ 65535) := Lib.hid fun k hk => by
    refine ⟨T[k], ?_, ?_, HR.out.2.1 _ (List.getElem_mem hk)⟩
    · rw [List.getElem?_append_left hk, List.getElem?_eq_getElem hk]
    · rw [List.getElem?_eq_getElem hk]
  have HEND : Hid ((T ++ U).length = T.length ∨ ∃ x, (T ++ U)[T.length]? = some x ∧ 65535 < x.lo ∧ T.length < (T ++ U).length) := Lib.hid (by
    rcases HR.out.2.2 with rfl | ⟨u, U', rfl, hu⟩
    · exact .inl (by simp)
    · exact .inr ⟨u, by simp, hu, by simp⟩)
  have HTL : Hid (T.length ≤ (T ++ U).length) := Lib.hid (by simp)
  clear HR HL HL2 HLEN
  generalize T ++ U = R at *
  go_upto_region 9 with ((with_reducible refine HFM.out.mono ?_); rintro e w3 ⟨v3, rfl, ho3, hb3⟩; have HO3 := Lib.hid ho3; have HB3 := Lib.hid hb3; obtain ⟨A3, c3, hv3, hA3⟩ := owns_form ho3; subst hv3; have HA3 := Lib.hid hA3; clear hA3 ho3 hb3)
  have HS3 := Lib.hid (HS2.out.below HB3.out)
  have HK3 := Lib.hid (HK2.out.trans (HS2.out.kept HB3.out))
  have hk3 := blk_below HB3.out HBK.out
  have HF3 := Lib.hid (((HS2.out.kept HB3.out).same _ HF2.out HNE.out).2)
  have HBX : Hid (∀ W, KeptS A km w3 W → W.cell? ⟨w.heap.size + 1, 0, none⟩ = some (.int .i64 88) ∧ W.cell? ⟨w.heap.size + 1, 1, none⟩ = some (.int .i64 16)) := Lib.hid fun W hW => by
    have hk := (hW.same _ HF3.out HNE.out).1.trans hk3
    exact ⟨cell_of_row W _ 0 _ _ (0, 0) hk, cell_of_row W _ 1 _ _ (0, 0) hk⟩
  have HROW : Hid (∀ (k : Nat) (x : SpanV), R[k]? = some x → ∃ g, A3 = some ⟨g, 0, none⟩ ∧ ∀ W, KeptS A km w3 W → W.cell? ⟨g, k * 2, none⟩ = some (.int .u32 x.lo) ∧ W.cell? ⟨g, k * 2 + 1, none⟩ = some (.int .u32 x.hi)) := Lib.hid fun k x hx => by
    have hk := (List.getElem?_eq_some_iff.1 hx).1
    obtain ⟨g, rfl⟩ := HA3.out (by omega)
    have hlg := HO3.out.lt g rfl
    have hgf := HS2.out.sp.ar.foreign_new HB3.out hlg.1 hlg.2
    have hgk : g ≠ km := by have := HS2.out.sp.fk.1; omega
    refine ⟨g, rfl, fun W hW => ⟨(World.cell?_of_block (hW.same _ hgf hgk).1).trans ?_, (World.cell?_of_block (hW.same _ hgf hgk).1).trans ?_⟩⟩
    · exact (HO3.out.cellAt (k * 2) (by omega)).trans (scell (i := 0) hx rfl)
    · exact (HO3.out.cellAt (k * 2 + 1) (by omega)).trans (scell (i := 1) hx rfl)
  have hrl := (owns_le HO3.out).2
  clear HB3 hk3 HF3 HBK HO3 HA3 HF2 HS2 HK2 HFM b0 b1 HNE
  go_wp2
  go_loopw [10, 35] (fun r i wr => ∃ k : Nat, i = .int .i64 k ∧ k ≤ T.length ∧ ∃ (q : Nat) (τ : Sg), r = .int .i64 q ∧ Hid (SpOk wr B S km A Mo τ) ∧ Hid (To (k * (K + 640)) (k * (K + 640)) σ τ) ∧ Hid (Den τ q (numsF 88 16 65535 (T.take k))) ∧ Hid (KeptS A km w3 wr)) (fun _ i _ => R.length - (intOf i).toNat)
  case atStart => exact ⟨0, rfl, by omega, 0, σ, rfl, HS3, Lib.hid (by rw [Nat.zero_mul]; exact To.refl σ), Lib.hid (Den.zero HS3.out.ok), Lib.hid (KeptS.refl _ _ _)⟩
  case round =>
    obtain ⟨k, rfl, hk, q, τ, rfl, HSR, HTR, HDR, HKR⟩ := hrel
    have htl := HTL.out
    by_cases hlt : k < T.length
    · have hI : (k : Int) < (R.length : Int) := by omega
      obtain ⟨x, hx, hxT, hxM⟩ := HLT.out k hlt
      obtain ⟨g, rfl, hrow⟩ := HROW.out k x hx
      obtain ⟨r0, r1⟩ := hrow wr HKR.out
      obtain ⟨lo, hlo⟩ : ∃ lo : Nat, x.lo = lo := ⟨x.lo.toNat, by have := x.hlo; omega⟩
      obtain ⟨hi, hhi⟩ : ∃ hi : Nat, x.hi = hi := ⟨x.hi.toNat, by have := x.hhi; omega⟩
      have hlb := x.hlo
      have hhb := x.hhi
      have HTK : Hid (numsF 88 16 65535 (T.take (k + 1)) = fun s => numsF 88 16 65535 (T.take k) s || spanF 88 16 lo (min hi 65535) s) := Lib.hid (by
        rw [List.take_add_one, hxT]
        show numsF 88 16 65535 (T.take k ++ [x]) = _
        rw [numsF_snoc, hlo, hhi]
        rfl)
      rw [hlo] at r0 hxM hlb
      rw [hhi] at r1 hhb
      have hl1 : (lo : Int) ≤ 4294967295 := by omega
      have hl2 : (hi : Int) ≤ 4294967295 := by omega
      have hcmp : ¬ (lo : Int) > 65535 := by omega
      have hm1 : (k + 1) * (K + 640) ≤ T.length * (K + 640) := Nat.mul_le_mul_right _ hlt
      have hm2 : (k + 1) * (K + 640) = k * (K + 640) + (K + 640) := by rw [Nat.add_mul, Nat.one_mul]
      have HM := Lib.hid (And.intro hm1 hm2)
      clear hx hxT hlo hhi hrow hm1 hm2 hxM hlb hhb
      go_upto_region 11 with fail
      have hbs := below1 wr (.cells #[.int .u32 lo, .int .u32 hi] 41)
      have hks := blk1 wr (.cells #[.int .u32 lo, .int .u32 hi] 41)
      have HF4 := Lib.hid (HSR.out.sp.ar.foreign_new hbs (Nat.le_refl _) (lt_of_block hks))
      have HN4 : Hid (wr.heap.size ≠ km) := Lib.hid (by have := HSR.out.sp.fk.1; omega)
      have HS4 := Lib.hid (HSR.out.below hbs)
      have HK4 := Lib.hid (HKR.out.trans (HSR.out.kept hbs))
      have HBS : Hid (∀ W, KeptS A km (wr.alloc (.cells #[.int .u32 lo, .int .u32 hi] 41)) W → W.cell? ⟨wr.heap.size, 0, none⟩ = some (.int .u32 lo) ∧ W.cell? ⟨wr.heap.size, 1, none⟩ = some (.int .u32 hi)) := Lib.hid fun W hW => by
        have hk := (hW.same _ HF4.out HN4.out).1.trans hks
        exact ⟨cell_of_row W _ 0 _ _ (0, 0) hk, cell_of_row W _ 1 _ _ (0, 0) hk⟩
      clear hbs hks HF4 HN4 r0 r1
      generalize wr.alloc (.cells #[.int .u32 lo, .int .u32 hi] 41) = w4 at *
      obtain ⟨s0, s1⟩ := HBS.out w4 (KeptS.refl _ _ _)
      obtain ⟨b0, b1⟩ := HBX.out w4 HK4.out
      have hnl := HTR.out.nl
      have hm := HM.out
      have HRA := Lib.hid (show Calls Tryz.prog 100 #[.pointer (some ⟨S, 0, none⟩), .agg #[.int .i64 88, .int .i64 16], .int .u64 lo, .bool true] w4 (SpRes w4 B S km A Mo τ (reachF 88 16 lo true 16) (2 * 16) (2 * 16)) from reach_any HS4.out 88 16 lo true (by omega) (by omega) (by omega) (by omega))
      clear hnl hm
      go_upto_region 13 with ((with_reducible refine HRA.out.mono ?_); rintro e w5 hr5; obtain ⟨q5, c5, he5⟩ := hr5.form; have HR5 := Lib.hid hr5; subst he5; clear hr5)
      rcases HR5.out.two with ⟨rfl, rfl, hlt5, τ5, hs5, ht5⟩ | ⟨r5, τ5, rfl, rfl, hs5, ht5, hd5⟩
      · have HFIN := Lib.hid (SpRes.full (F := numsF 88 16 65535 T) (HK3.out.trans (HK4.out.trans HR5.out.1)) rfl (by have := HTR.out.hl; have := HM.out; omega) hs5 ((HTR.out.trans ht5).mono (show k * (K + 640) + 2 * 16 ≤ T.length * (K + 640) by have := HM.out; omega) (show k * (K + 640) + 2 * 16 ≤ T.length * (K + 640) by have := HM.out; omega)))
        clear hlt5 hs5 ht5
        go_wp2
        go_ret2
        exact HFIN.out
      · have HS5 := Lib.hid hs5
        have HT5 := Lib.hid (HTR.out.trans ht5)
        have HD5 := Lib.hid hd5
        have HDQ5 := Lib.hid (HDR.out.to ht5 HSR.out.ok hs5.ok)
        have HKS5 := Lib.hid HR5.out.1
        have HK5 := Lib.hid (HK4.out.trans HR5.out.1)
        clear hs5 ht5 hd5 HR5 HRA s0 s1 b0 b1
        obtain ⟨s0, s1⟩ := HBS.out w5 HKS5.out
        obtain ⟨b0, b1⟩ := HBX.out w5 HK5.out
        have hnl := HT5.out.nl
        have hm := HM.out
        have HRB := Lib.hid (show Calls Tryz.prog 100 #[.pointer (some ⟨S, 0, none⟩), .agg #[.int .i64 88, .int .i64 16], .int .u64 (min (hi : Int) 65535), .bool false] w5 (SpRes w5 B S km A Mo τ5 (reachF 88 16 (min hi 65535) false 16) (2 * 16) (2 * 16)) from by
          rw [show min (hi : Int) 65535 = ((min hi 65535 : Nat) : Int) by omega]
          exact reach_any HS5.out 88 16 (min hi 65535) false (by omega) (by omega) (by omega) (by omega))
        clear hnl hm
        go_upto_region 16 with ((with_reducible refine HRB.out.mono ?_); rintro e w6 hr6; obtain ⟨q6, c6, he6⟩ := hr6.form; have HR6 := Lib.hid hr6; subst he6; clear hr6)
        rcases HR6.out.two with ⟨rfl, rfl, hlt6, τ6, hs6, ht6⟩ | ⟨r6, τ6, rfl, rfl, hs6, ht6, hd6⟩
        · have HFIN := Lib.hid (SpRes.full (F := numsF 88 16 65535 T) (HK3.out.trans (HK5.out.trans HR6.out.1)) rfl (by have := HT5.out.hl; have := HM.out; omega) hs6 ((HT5.out.trans ht6).mono (show k * (K + 640) + 2 * 16 + 2 * 16 ≤ T.length * (K + 640) by have := HM.out; omega) (show k * (K + 640) + 2 * 16 + 2 * 16 ≤ T.length * (K + 640) by have := HM.out; omega)))
          clear hlt6 hs6 ht6
          go_wp2
          go_ret2
          exact HFIN.out
        · have HS6 := Lib.hid hs6
          have HT6 := Lib.hid (HT5.out.trans ht6)
          have HDQ6 := Lib.hid (HDQ5.out.to ht6 HS5.out.ok hs6.ok)
          have HK6 := Lib.hid (HK5.out.trans HR6.out.1)
          have c6 := hs6.sp.c0
          have hnl := HT6.out.nl
          have hm := HM.out
          have HAN := Lib.hid (show Calls Tryz.prog 55 #[.pointer (some ⟨A.a, 0, none⟩), .int .i64 r5, .int .i64 r6] w6 (SpRes w6 B S km A Mo τ6 (spanF 88 16 lo (min hi 65535)) 576 576) from hs6.and (HD5.out.to ht6 HS5.out.ok hs6.ok) hd6 (a := 576) (b := 576) (Grow.wid hs6.ok.wf.two (spanF_wid 88 16 lo (min hi 65535) (by omega) (by omega))) (by omega))
          clear hs6 ht6 hd6 HR6 HRB s0 s1 b0 b1 hnl hm HS5 HT5 HD5 HDQ5 HKS5 HK5
          go_upto_region 19 with ((with_reducible refine HAN.out.mono ?_); rintro e w7 hr7; obtain ⟨q7, c7, he7⟩ := hr7.form; have HR7 := Lib.hid hr7; subst he7; clear hr7)
          rcases HR7.out.two with ⟨rfl, rfl, hlt7, τ7, hs7, ht7⟩ | ⟨r7, τ7, rfl, rfl, hs7, ht7, hd7⟩
          · have HFIN := Lib.hid (SpRes.full (F := numsF 88 16 65535 T) (HK3.out.trans (HK6.out.trans HR7.out.1)) rfl (by have := HT6.out.hl; have := HM.out; omega) hs7 ((HT6.out.trans ht7).mono (show k * (K + 640) + 2 * 16 + 2 * 16 + 576 ≤ T.length * (K + 640) by have := HM.out; omega) (show k * (K + 640) + 2 * 16 + 2 * 16 + 576 ≤ T.length * (K + 640) by have := HM.out; omega)))
            clear hlt7 hs7 ht7
            go_wp2
            go_ret2
            exact HFIN.out
          · have HS7 := Lib.hid hs7
            have HT7 := Lib.hid (HT6.out.trans ht7)
            have HDQ7 := Lib.hid (HDQ6.out.to ht7 HS6.out.ok hs7.ok)
            have HK7 := Lib.hid (HK6.out.trans HR7.out.1)
            have c7 := hs7.sp.c0
            have hnl := HT7.out.nl
            have hm := HM.out
            have hwk := HK.out (k + 1) (by omega)
            rw [HTK.out] at hwk
            have HOR := Lib.hid (show Calls Tryz.prog 90 #[.pointer (some ⟨A.a, 0, none⟩), .int .i64 q, .int .i64 r7] w7 (SpRes w7 B S km A Mo τ7 (fun s => numsF 88 16 65535 (T.take k) s || spanF 88 16 lo (min hi 65535) s) K K) from hs7.or HDQ7.out hd7 (a := K) (b := K) (Grow.wid hs7.ok.wf.two hwk) (by omega))
            clear hs7 ht7 hd7 HR7 HAN hnl hm hwk HS6 HT6 HDQ6 HK6
            go_upto_region 22 with ((with_reducible refine HOR.out.mono ?_); rintro e w8 hr8; obtain ⟨q8, c8, he8⟩ := hr8.form; have HR8 := Lib.hid hr8; subst he8; clear hr8)
            rcases HR8.out.two with ⟨rfl, rfl, hlt8, τ8, hs8, ht8⟩ | ⟨r8, τ8, rfl, rfl, hs8, ht8, hd8⟩
            · have HFIN := Lib.hid (SpRes.full (F := numsF 88 16 65535 T) (HK3.out.trans (HK7.out.trans HR8.out.1)) rfl (by have := HT7.out.hl; have := HM.out; omega) hs8 ((HT7.out.trans ht8).mono (show k * (K + 640) + 2 * 16 + 2 * 16 + 576 + K ≤ T.length * (K + 640) by have := HM.out; omega) (show k * (K + 640) + 2 * 16 + 2 * 16 + 576 + K ≤ T.length * (K + 640) by have := HM.out; omega)))
              clear hlt8 hs8 ht8
              go_wp2
              go_ret2
              exact HFIN.out
            · have HS8 := Lib.hid hs8
              have HT8 := Lib.hid ((HT7.out.trans ht8).mono (show k * (K + 640) + 2 * 16 + 2 * 16 + 576 + K ≤ (k + 1) * (K + 640) by have := HM.out; omega) (show k * (K + 640) + 2 * 16 + 2 * 16 + 576 + K ≤ (k + 1) * (K + 640) by have := HM.out; omega))
              have HD8 : Hid (Den τ8 r8 (numsF 88 16 65535 (T.take (k + 1)))) := Lib.hid (by rw [HTK.out]; exact hd8)
              have HK8 := Lib.hid (HK7.out.trans HR8.out.1)
              clear hs8 ht8 hd8 HR8 HOR HS7 HT7 HDQ7 HK7
              go_wp2
              exact ⟨⟨k + 1, by go_num, by omega, r8, τ8, rfl, HS8, HT8, HD8, HK8⟩, by simp only [intOf]; omega⟩
    · obtain rfl : k = T.length := by omega
      have hfd := HDR.out
      rw [List.take_length] at hfd
      have HFIN : Hid (SpRes w B S km A Mo σ (numsF 88 16 65535 T) (T.length * (K + 640)) (T.length * (K + 640)) (.returned (.tuple #[.int .i64 q, .int .i64 0])) wr) := Lib.hid ⟨HK3.out.trans HKR.out, .inr ⟨q, τ, rfl, HSR.out, HTR.out, hfd⟩⟩
      clear hfd
      rcases HEND.out with hend | ⟨x, hx, hxl, hlen⟩
      · have hI : ¬ (T.length : Int) < (R.length : Int) := by omega
        clear hend
        go_wp2
        go_ret2
        exact HFIN.out
      · have hI : (T.length : Int) < (R.length : Int) := by omega
        obtain ⟨g, rfl, hrow⟩ := HROW.out T.length x hx
        obtain ⟨r0, r1⟩ := hrow wr HKR.out
        obtain ⟨lo, hlo⟩ : ∃ lo : Nat, x.lo = lo := ⟨x.lo.toNat, by have := x.hlo; omega⟩
        obtain ⟨hi, hhi⟩ : ∃ hi : Nat, x.hi = hi := ⟨x.hi.toNat, by have := x.hhi; omega⟩
        have hlb := x.hlo
        have hhb := x.hhi
        rw [hlo] at r0 hxl hlb
        rw [hhi] at r1 hhb
        have hl1 : (lo : Int) ≤ 4294967295 := by omega
        have hl2 : (hi : Int) ≤ 4294967295 := by omega
        have hcmp : (lo : Int) > 65535 := by omega
        have hbs := below1 wr (.cells #[.int .u32 lo, .int .u32 hi] 41)
        have HS4 := Lib.hid (SpRes.laid HFIN.out hbs)
        have s0 : (wr.alloc (.cells #[.int .u32 lo, .int .u32 hi] 41)).cell? ⟨wr.heap.size, 0, none⟩ = some (.int .u32 lo) := cell_of_row _ _ 0 _ _ (0, 0) (blk1 wr _)
        obtain ⟨b0, b1⟩ := HBX.out _ (HKR.out.trans (HSR.out.kept hbs))
        clear hx hrow hxl hlen hlo hhi hlb hhb hbs
        go_wp2
        go_ret2
        exact HS4.out
end
end Go.Proofs.YtbahehmfhjkgeaaGreat
