/-
  Joined texts: Fc2, Fc5, Fc6, FoM, FoS, Fr7, Fr8, Filt6, Filt7.
-/
import Derived.Test.YtbahehmfhjkgeaaGreatMFilterOrder11
import Derived.Deep.DeepCutAuto
import Derived.Test.YtbahehmfhjkgeaaGreatMFilterOrder3
import Derived.Test.YtbahehmfhjkgeaaGreatMFilterOrder10
import Derived.Laws.StructEq
/-
  A rule's set, its cost told by the sharp bound (written by wip/gen/genfc.py).
-/
namespace Go.Proofs.YtbahehmfhjkgeaaGreat
open Go Go.RowKit Go.ChangeMaps Go.MapKept Go.Maps Go.Lib Go.Sort

/-- A function that takes c nodes at most, or has a node. -/
def Fits (σ : Sg) (F : Fun) (c : Nat) : Prop := WidB F c ∨ ∃ g, Den σ g F
theorem Fits.grow {σ τ : Sg} {F : Fun} {c k m Mo Mo' : Nat} (h : Fits σ F c) (t : To k m σ τ) (o : SgOk Mo σ) (p : SgOk Mo' τ) : Grow τ.N τ.H F c c := by
  rcases h with h | ⟨g, h⟩
  · exact Grow.widB p.wf.two h
  · exact ((h.to t o p).grow p).mono (Nat.zero_le _) (Nat.zero_le _)
theorem Fits.to {σ τ : Sg} {F : Fun} {c k m Mo Mo' : Nat} (h : Fits σ F c) (t : To k m σ τ) (o : SgOk Mo σ) (p : SgOk Mo' τ) : Fits τ F c := h.imp id fun ⟨g, h⟩ => ⟨g, h.to t o p⟩
theorem sumTo_up (c : Nat → Nat) {i j : Nat} (h : i ≤ j) : sumTo c i ≤ sumTo c j := by
  induction h with
  | refl => exact Nat.le_refl _
  | step _ ih => exact Nat.le_trans ih (Nat.le_add_right _ _)
def rcst (cd cl : Nat → Nat) (k : Nat) : Nat := 6760 + cd k + cl k
section
variable {w : World} {B S km : Nat} {A : Blks} {Mo : Nat} {σ : Sg}
set_option maxRecDepth 100000
set_option maxHeartbeats 8000000
theorem rule_c (h : SpOk w B S km A Mo σ) (r : RuleV) (ok : RuleOk r) (hl : σ.N.length + 6760 ≤ 2147483647) :
    Calls Tryz.prog 51 #[.pointer (some ⟨S, 0, none⟩), .agg #[.bool r.permit, .int .i64 r.proto, .int .u32 r.sa, .int .i64 r.sn, .int .u32 r.da, .int .i64 r.dn, .int .u32 r.sl, .int .u32 r.sh, .int .u32 r.dl, .int .u32 r.dh]] w
      (SpRes w B S km A Mo σ (ruleF r) (6760) (6760)) := by
  obtain ⟨i0, hif, hz0, hz1, hz2⟩ := info_parts Tryz.infoFn0
  have hW : (w.alloc (.cells #[.pointer (some ⟨S, 0, none⟩)] 26)).alloc (.cells #[.bool r.permit, .int .i64 r.proto, .int .u32 r.sa, .int .i64 r.sn, .int .u32 r.da, .int .i64 r.dn, .int .u32 r.sl, .int .u32 r.sh, .int .u32 r.dl, .int .u32 r.dh] 43) = (w.alloc (.cells #[.pointer (some ⟨S, 0, none⟩)] 26)).alloc (.cells #[.bool r.permit, .int .i64 r.proto, .int .u32 r.sa, .int .i64 r.sn, .int .u32 r.da, .int .i64 r.dn, .int .u32 r.sl, .int .u32 r.sh, .int .u32 r.dl, .int .u32 r.dh] 43) := rfl
  have hbw := below2 w (.cells #[.pointer (some ⟨S, 0, none⟩)] 26) (.cells #[.bool r.permit, .int .i64 r.proto, .int .u32 r.sa, .int .i64 r.sn, .int .u32 r.da, .int .i64 r.dn, .int .u32 r.sl, .int .u32 r.sh, .int .u32 r.dl, .int .u32 r.dh] 43)
  have hs1 : (w.alloc (.cells #[.pointer (some ⟨S, 0, none⟩)] 26)).heap.size = w.heap.size + 1 := by simp
  have hks := blk_below (below1 (w.alloc (.cells #[.pointer (some ⟨S, 0, none⟩)] 26)) (.cells #[.bool r.permit, .int .i64 r.proto, .int .u32 r.sa, .int .i64 r.sn, .int .u32 r.da, .int .i64 r.dn, .int .u32 r.sl, .int .u32 r.sh, .int .u32 r.dl, .int .u32 r.dh] 43)) (blk1 w (.cells #[.pointer (some ⟨S, 0, none⟩)] 26))
  have hkr := blk1 (w.alloc (.cells #[.pointer (some ⟨S, 0, none⟩)] 26)) (.cells #[.bool r.permit, .int .i64 r.proto, .int .u32 r.sa, .int .i64 r.sn, .int .u32 r.da, .int .i64 r.dn, .int .u32 r.sl, .int .u32 r.sh, .int .u32 r.dl, .int .u32 r.dh] 43)
  rw [hs1] at hkr
  have HSZ : Hid (((w.alloc (.cells #[.pointer (some ⟨S, 0, none⟩)] 26)).alloc (.cells #[.bool r.permit, .int .i64 r.proto, .int .u32 r.sa, .int .i64 r.sn, .int .u32 r.da, .int .i64 r.dn, .int .u32 r.sl, .int .u32 r.sh, .int .u32 r.dl, .int .u32 r.dh] 43)).heap.size = w.heap.size + 1 + 1) := Lib.hid (by simp)
  have HAB := Lib.hid (show AskBox _ S w.heap.size (w.heap.size + 1) r from ⟨hks, hkr⟩)
  have HF1 := Lib.hid (h.sp.ar.foreign_new hbw (Nat.le_refl _) (lt_of_block hks))
  have HF2 := Lib.hid (h.sp.ar.foreign_new hbw (show w.heap.size ≤ w.heap.size + 1 by omega) (lt_of_block hkr))
  have HNE : Hid (w.heap.size ≠ km ∧ w.heap.size + 1 ≠ km) := Lib.hid (by have := h.sp.fk.1; omega)
  have HS := Lib.hid (h.below hbw)
  have HK := Lib.hid (h.kept hbw)
  have HOK := Lib.hid ok
  have c1 : ((w.alloc (.cells #[.pointer (some ⟨S, 0, none⟩)] 26)).alloc (.cells #[.bool r.permit, .int .i64 r.proto, .int .u32 r.sa, .int .i64 r.sn, .int .u32 r.da, .int .i64 r.dn, .int .u32 r.sl, .int .u32 r.sh, .int .u32 r.dl, .int .u32 r.dh] 43)).cell? ⟨w.heap.size + 1, 1, none⟩ = some (.int .i64 r.proto) := cell_of_row _ _ 1 _ _ (0, 0) hkr
  clear h hbw hks hkr hs1 ok hW
  go_enter Tryz.func51, Tryz.ntmps51
  go_upto_region 1 with fail
  generalize (w.alloc (.cells #[.pointer (some ⟨S, 0, none⟩)] 26)).alloc (.cells #[.bool r.permit, .int .i64 r.proto, .int .u32 r.sa, .int .i64 r.sn, .int .u32 r.da, .int .i64 r.dn, .int .u32 r.sl, .int .u32 r.sh, .int .u32 r.dl, .int .u32 r.dh] 43) = w0 at *
  have HROW := Lib.hid (show (w0.alloc (.cells #[askV w.heap.size (w.heap.size + 1) 0, askV w.heap.size (w.heap.size + 1) 1, askV w.heap.size (w.heap.size + 1) 2, askV w.heap.size (w.heap.size + 1) 3] 95)).ownsRow w0.heap.size 95 1 (.slice (some ⟨w0.heap.size, 0, none⟩) 4 4) 4 [askV w.heap.size (w.heap.size + 1) 0, askV w.heap.size (w.heap.size + 1) 1, askV w.heap.size (w.heap.size + 1) 2, askV w.heap.size (w.heap.size + 1) 3] from
    World.ownsRow_lit w0 #[askV w.heap.size (w.heap.size + 1) 0, askV w.heap.size (w.heap.size + 1) 1, askV w.heap.size (w.heap.size + 1) 2, askV w.heap.size (w.heap.size + 1) 3] 4 (Nat.le_refl _) (by unfold maxLen; omega) rfl)
  have HB1 := Lib.hid (below1 w0 (.cells #[askV w.heap.size (w.heap.size + 1) 0, askV w.heap.size (w.heap.size + 1) 1, askV w.heap.size (w.heap.size + 1) 2, askV w.heap.size (w.heap.size + 1) 3] 95))
  have hWV : w0.alloc (.cells #[.func (.func 108) #[] #[.pointer (some ⟨w.heap.size, 0, none⟩), .pointer (some ⟨w.heap.size + 1, 0, none⟩)], .func (.func 109) #[] #[.pointer (some ⟨w.heap.size, 0, none⟩), .pointer (some ⟨w.heap.size + 1, 0, none⟩)], .func (.func 110) #[] #[.pointer (some ⟨w.heap.size, 0, none⟩), .pointer (some ⟨w.heap.size + 1, 0, none⟩)], .func (.func 111) #[] #[.pointer (some ⟨w.heap.size, 0, none⟩), .pointer (some ⟨w.heap.size + 1, 0, none⟩)]] 95) = w0.alloc (.cells #[askV w.heap.size (w.heap.size + 1) 0, askV w.heap.size (w.heap.size + 1) 1, askV w.heap.size (w.heap.size + 1) 2, askV w.heap.size (w.heap.size + 1) 3] 95) := rfl
  go_upto_region 2 with fail
  clear hWV
  generalize w0.alloc (.cells #[askV w.heap.size (w.heap.size + 1) 0, askV w.heap.size (w.heap.size + 1) 1, askV w.heap.size (w.heap.size + 1) 2, askV w.heap.size (w.heap.size + 1) 3] 95) = w1 at *
  have d1 : w1.cell? ⟨w.heap.size + 1, 1, none⟩ = some (.int .i64 r.proto) := cell_of_row _ _ 1 _ _ (0, 0) (blk_below HB1.out HAB.out.r)
  clear c1
  by_cases hp : 0 ≤ r.proto
  · have hpi : r.proto ≥ 0 := hp
    have hne : asksN r = 5 := if_pos hp
    have HN := Lib.hid hne
    have hbs := HB1.out.size
    clear hp hne
    go_upto_region 4 with (at_builtin; refine wpList_push2 (v := .slice (some ⟨w0.heap.size, 0, none⟩) 4 4) rfl _ _ 196 rfl 95 i0 _ 1 8 Tryz.underlying196 hif hz0 hz1 hz2 rfl (by decide) (by decide) [askV w.heap.size (w.heap.size + 1) 4] rfl rfl rfl HROW.out rfl (by intro u hu; simp at hu; subst hu; rfl) (by omega) hbs ?_; intro v2 w2 hown2 hg2 hmv2; obtain ⟨A2, c2, hv2, hA2⟩ := owns_form hown2; subst hv2; have HO2 := Lib.hid hown2; have HA2 := Lib.hid hA2; have HB2 := Lib.hid (below_grown HB1.out hbs hg2 (fun g hg => by have : some w0.heap.size = some g := hg; injection this; omega)); clear hown2 hg2 hmv2 hA2)
    clear HROW hbs
    have HS2 := Lib.hid (HS.out.below HB2.out)
    have HK2 := Lib.hid (HK.out.trans (HS.out.kept HB2.out))
    have HAB2 := Lib.hid (show AskBox w2 S w.heap.size (w.heap.size + 1) r from ⟨blk_below HB2.out HAB.out.s, blk_below HB2.out HAB.out.r⟩)
    have HG2 := Lib.hid (And.intro (((HS.out.kept HB2.out).same _ HF1.out HNE.out.1).2) (((HS.out.kept HB2.out).same _ HF2.out HNE.out.2).2))
    have HBOX : Hid (∀ W, KeptS A km w2 W → AskBox W S w.heap.size (w.heap.size + 1) r) := Lib.hid fun W hW => ⟨(hW.same _ HG2.out.1 HNE.out.1).1.trans HAB2.out.s, (hW.same _ HG2.out.2 HNE.out.2).1.trans HAB2.out.r⟩
    have HCELL : Hid (∀ k, k < 5 → ∃ g, A2 = some ⟨g, 0, none⟩ ∧ ∀ W, KeptS A km w2 W → W.cell? ⟨g, k, none⟩ = some (askV w.heap.size (w.heap.size + 1) k)) := Lib.hid fun k hk => by
      obtain ⟨g, hg⟩ := HA2.out (by omega)
      have hlg := HO2.out.lt g (by rw [hg]; rfl)
      have hgf := HS.out.sp.ar.foreign_new HB2.out hlg.1 hlg.2
      have hgk : g ≠ km := by have := HS.out.sp.fk.1; omega
      refine ⟨g, hg, fun W hW => (World.cell?_of_block (hW.same _ hgf hgk).1).trans ?_⟩
      have ho := HO2.out
      rw [hg] at ho
      refine (ho.cellAt k (by omega)).trans ?_
      obtain rfl | rfl | rfl | rfl | rfl : k = 0 ∨ k = 1 ∨ k = 2 ∨ k = 3 ∨ k = 4 := by omega
      all_goals rfl
    clear HO2 HB2 HA2 HAB HF1 HF2 HSZ HAB2 HG2 HNE HS HK
    go_wp2
    go_loopw [7, 26] (fun f i wr => ∃ k : Nat, i = .int .i64 k ∧ k ≤ 5 ∧ ∃ (q : Nat) (τ : Sg), f = .int .i64 q ∧ Hid (SpOk wr B S km A Mo τ) ∧ Hid (To (k * 1352) (k * 1352) σ τ) ∧ Hid (Den τ q (ruleK r k)) ∧ Hid (KeptS A km w2 wr)) (fun _ i _ => 5 - (intOf i).toNat)
    case atStart => exact ⟨0, rfl, by omega, 1, σ, rfl, HS2, Lib.hid (by rw [Nat.zero_mul]; exact To.refl σ), Lib.hid (Den.one HS2.out.ok), Lib.hid (KeptS.refl _ _ _)⟩
    case round =>
      obtain ⟨k, rfl, hk, q, τ, rfl, HSR, HTR, HDR, HKR⟩ := hrel
      by_cases hlt : k < 5
      · have hI : (k : Int) < 5 := by omega
        obtain ⟨g, hge, hcell⟩ := HCELL.out k hlt
        have hcl := hcell wr HKR.out
        obtain ⟨fid, hfv, hen, hcall⟩ := ask_yes (B := B) (S := S) (km := km) (A := A) (Mo := Mo) r HOK.out w.heap.size (w.heap.size + 1) k (by rw [HN.out]; exact hlt)
        rw [hfv] at hcl
        have hm1 : (k + 1) * 1352 ≤ 6760 := (by omega)
        have hm2 : (k + 1) * 1352 = k * 1352 + 1352 := by rw [Nat.add_mul, Nat.one_mul]
        have hnl := HTR.out.nl
        have HCL := Lib.hid (hcall wr τ HSR.out (HBOX.out wr HKR.out) (by omega))
        have HM := Lib.hid (And.intro hm1 hm2)
        clear hcell hfv hcall hm1 hm2 hnl
        subst hge
        go_upto_region 9 with ((with_reducible refine HCL.out.mono ?_); rintro e w5 hr5; obtain ⟨q5, c5, he5⟩ := hr5.form; have HR5 := Lib.hid hr5; subst he5; clear hr5)
        rcases HR5.out.two with ⟨rfl, rfl, hlt5, τ5, hs5, ht5⟩ | ⟨r5, τ5, rfl, rfl, hs5, ht5, hd5⟩
        · have HFIN := Lib.hid (SpRes.full (F := ruleF r) (HK2.out.trans (HKR.out.trans HR5.out.1)) rfl (by have := HTR.out.hl; have := HM.out; omega) hs5 ((HTR.out.trans ht5).mono (show k * 1352 + 1216 ≤ 6760 by have := HM.out; omega) (show k * 1352 + 1216 ≤ 6760 by have := HM.out; omega)))
          clear hlt5 hs5 ht5
          go_wp2
          go_ret2
          exact HFIN.out
        · have HS5 := Lib.hid hs5
          have HT5 := Lib.hid (HTR.out.trans ht5)
          have HK5 := Lib.hid (HKR.out.trans HR5.out.1)
          have hnl := HT5.out.nl
          have hm := HM.out
          have hw := ruleK_widB HOK.out (j := k + 1) (by rw [HN.out]; omega)
          have HAN := Lib.hid (show Calls Tryz.prog 14 #[.pointer (some ⟨S, 0, none⟩), .int .i64 q, .int .i64 r5] w5 (SpRes w5 B S km A Mo τ5 (ruleK r (k + 1)) 136 136) from relAnd_yes hs5 (HDR.out.to ht5 HSR.out.ok hs5.ok) hd5 (ruleK_set r k) (askF_set r k) (a := 136) (b := 136) (Grow.widB hs5.ok.wf.two hw) (by omega))
          have s0 := cell0 (HBOX.out w5 HK5.out).s
          clear hs5 ht5 hd5 HR5 HCL hnl hm hw hcl hen
          go_upto_region 12 with ((with_reducible refine HAN.out.mono ?_); rintro e w7 hr7; obtain ⟨q7, c7, he7⟩ := hr7.form; have HR7 := Lib.hid hr7; subst he7; clear hr7)
          rcases HR7.out.two with ⟨rfl, rfl, hlt7, τ7, hs7, ht7⟩ | ⟨r7, τ7, rfl, rfl, hs7, ht7, hd7⟩
          · have HFIN := Lib.hid (SpRes.full (F := ruleF r) (HK2.out.trans (HK5.out.trans HR7.out.1)) rfl (by have := HT5.out.hl; have := HM.out; omega) hs7 ((HT5.out.trans ht7).mono (show k * 1352 + 1216 + 136 ≤ 6760 by have := HM.out; omega) (show k * 1352 + 1216 + 136 ≤ 6760 by have := HM.out; omega)))
            clear hlt7 hs7 ht7
            go_wp2
            go_ret2
            exact HFIN.out
          · have HS7 := Lib.hid hs7
            have HT7 := Lib.hid ((HT5.out.trans ht7).mono (show k * 1352 + 1216 + 136 ≤ (k + 1) * 1352 by have := HM.out; omega) (show k * 1352 + 1216 + 136 ≤ (k + 1) * 1352 by have := HM.out; omega))
            have HD7 := Lib.hid hd7
            have HK7 := Lib.hid (HK5.out.trans HR7.out.1)
            clear hs7 ht7 hd7 HR7 HAN
            go_wp2
            exact ⟨⟨k + 1, by go_num, by omega, r7, τ7, rfl, HS7, HT7, HD7, HK7⟩, by simp only [intOf]; omega⟩
      · obtain rfl : k = 5 := by omega
        have hI : ¬ ((5 : Nat) : Int) < 5 := by omega
        have hfd := HDR.out
        have hrf : ruleF r = ruleK r 5 := by unfold ruleF; rw [HN.out]
        rw [← hrf] at hfd
        have HFIN : Hid (SpRes w B S km A Mo σ (ruleF r) (6760) (6760) (.returned (.tuple #[.int .i64 q, .int .i64 0])) wr) := Lib.hid ⟨HK2.out.trans HKR.out, .inr ⟨q, τ, rfl, HSR.out, HTR.out.mono ((by omega)) ((by omega)), hfd⟩⟩
        clear hfd hrf
        go_wp2
        go_ret2
        exact HFIN.out
  · have hpi : ¬ r.proto ≥ 0 := hp
    have hne : asksN r = 4 := if_neg hp
    have HN := Lib.hid hne
    clear hp hne
    go_upto_region 4 with fail
    obtain ⟨A2, hA2e⟩ : ∃ A2 : Option Addr, A2 = some ⟨w0.heap.size, 0, none⟩ := ⟨_, rfl⟩
    obtain ⟨c2, hc2e⟩ : ∃ c2 : Nat, c2 = 4 := ⟨_, rfl⟩
    have HO2 := HROW
    have HA2 : Hid (0 < 4 → ∃ g, some (⟨w0.heap.size, 0, none⟩ : Addr) = some ⟨g, 0, none⟩) := Lib.hid fun _ => ⟨_, rfl⟩
    have HB2 := HB1
    clear HROW HB1 d1 hA2e hc2e
    clear A2 c2
    rename World => w2
    have HS2 := Lib.hid (HS.out.below HB2.out)
    have HK2 := Lib.hid (HK.out.trans (HS.out.kept HB2.out))
    have HAB2 := Lib.hid (show AskBox w2 S w.heap.size (w.heap.size + 1) r from ⟨blk_below HB2.out HAB.out.s, blk_below HB2.out HAB.out.r⟩)
    have HG2 := Lib.hid (And.intro (((HS.out.kept HB2.out).same _ HF1.out HNE.out.1).2) (((HS.out.kept HB2.out).same _ HF2.out HNE.out.2).2))
    have HBOX : Hid (∀ W, KeptS A km w2 W → AskBox W S w.heap.size (w.heap.size + 1) r) := Lib.hid fun W hW => ⟨(hW.same _ HG2.out.1 HNE.out.1).1.trans HAB2.out.s, (hW.same _ HG2.out.2 HNE.out.2).1.trans HAB2.out.r⟩
    have HCELL : Hid (∀ k, k < 4 → ∃ g, (some (⟨w0.heap.size, 0, none⟩ : Addr)) = some ⟨g, 0, none⟩ ∧ ∀ W, KeptS A km w2 W → W.cell? ⟨g, k, none⟩ = some (askV w.heap.size (w.heap.size + 1) k)) := Lib.hid fun k hk => by
      obtain ⟨g, hg⟩ := HA2.out (by omega)
      have hlg := HO2.out.lt g (by rw [hg]; rfl)
      have hgf := HS.out.sp.ar.foreign_new HB2.out hlg.1 hlg.2
      have hgk : g ≠ km := by have := HS.out.sp.fk.1; omega
      refine ⟨g, hg, fun W hW => (World.cell?_of_block (hW.same _ hgf hgk).1).trans ?_⟩
      have ho := HO2.out
      rw [hg] at ho
      refine (ho.cellAt k (by omega)).trans ?_
      obtain rfl | rfl | rfl | rfl : k = 0 ∨ k = 1 ∨ k = 2 ∨ k = 3 := by omega
      all_goals rfl
    clear HO2 HB2 HA2 HAB HF1 HF2 HSZ HAB2 HG2 HNE HS HK
    go_wp2
    go_loopw [7, 26] (fun f i wr => ∃ k : Nat, i = .int .i64 k ∧ k ≤ 4 ∧ ∃ (q : Nat) (τ : Sg), f = .int .i64 q ∧ Hid (SpOk wr B S km A Mo τ) ∧ Hid (To (k * 1352) (k * 1352) σ τ) ∧ Hid (Den τ q (ruleK r k)) ∧ Hid (KeptS A km w2 wr)) (fun _ i _ => 4 - (intOf i).toNat)
    case atStart => exact ⟨0, rfl, by omega, 1, σ, rfl, HS2, Lib.hid (by rw [Nat.zero_mul]; exact To.refl σ), Lib.hid (Den.one HS2.out.ok), Lib.hid (KeptS.refl _ _ _)⟩
    case round =>
      obtain ⟨k, rfl, hk, q, τ, rfl, HSR, HTR, HDR, HKR⟩ := hrel
      by_cases hlt : k < 4
      · have hI : (k : Int) < 4 := by omega
        obtain ⟨g, hge, hcell⟩ := HCELL.out k hlt
        have hcl := hcell wr HKR.out
        obtain ⟨fid, hfv, hen, hcall⟩ := ask_yes (B := B) (S := S) (km := km) (A := A) (Mo := Mo) r HOK.out w.heap.size (w.heap.size + 1) k (by rw [HN.out]; exact hlt)
        rw [hfv] at hcl
        have hm1 : (k + 1) * 1352 ≤ 6760 := (by omega)
        have hm2 : (k + 1) * 1352 = k * 1352 + 1352 := by rw [Nat.add_mul, Nat.one_mul]
        have hnl := HTR.out.nl
        have HCL := Lib.hid (hcall wr τ HSR.out (HBOX.out wr HKR.out) (by omega))
        have HM := Lib.hid (And.intro hm1 hm2)
        clear hcell hfv hcall hm1 hm2 hnl
        obtain rfl : g = w0.heap.size := by injection hge with hge; injection hge with h1; exact h1.symm
        go_upto_region 9 with ((with_reducible refine HCL.out.mono ?_); rintro e w5 hr5; obtain ⟨q5, c5, he5⟩ := hr5.form; have HR5 := Lib.hid hr5; subst he5; clear hr5)
        rcases HR5.out.two with ⟨rfl, rfl, hlt5, τ5, hs5, ht5⟩ | ⟨r5, τ5, rfl, rfl, hs5, ht5, hd5⟩
        · have HFIN := Lib.hid (SpRes.full (F := ruleF r) (HK2.out.trans (HKR.out.trans HR5.out.1)) rfl (by have := HTR.out.hl; have := HM.out; omega) hs5 ((HTR.out.trans ht5).mono (show k * 1352 + 1216 ≤ 6760 by have := HM.out; omega) (show k * 1352 + 1216 ≤ 6760 by have := HM.out; omega)))
          clear hlt5 hs5 ht5
          go_wp2
          go_ret2
          exact HFIN.out
        · have HS5 := Lib.hid hs5
          have HT5 := Lib.hid (HTR.out.trans ht5)
          have HK5 := Lib.hid (HKR.out.trans HR5.out.1)
          have hnl := HT5.out.nl
          have hm := HM.out
          have hw := ruleK_widB HOK.out (j := k + 1) (by rw [HN.out]; omega)
          have HAN := Lib.hid (show Calls Tryz.prog 14 #[.pointer (some ⟨S, 0, none⟩), .int .i64 q, .int .i64 r5] w5 (SpRes w5 B S km A Mo τ5 (ruleK r (k + 1)) 136 136) from relAnd_yes hs5 (HDR.out.to ht5 HSR.out.ok hs5.ok) hd5 (ruleK_set r k) (askF_set r k) (a := 136) (b := 136) (Grow.widB hs5.ok.wf.two hw) (by omega))
          have s0 := cell0 (HBOX.out w5 HK5.out).s
          clear hs5 ht5 hd5 HR5 HCL hnl hm hw hcl hen
          go_upto_region 12 with ((with_reducible refine HAN.out.mono ?_); rintro e w7 hr7; obtain ⟨q7, c7, he7⟩ := hr7.form; have HR7 := Lib.hid hr7; subst he7; clear hr7)
          rcases HR7.out.two with ⟨rfl, rfl, hlt7, τ7, hs7, ht7⟩ | ⟨r7, τ7, rfl, rfl, hs7, ht7, hd7⟩
          · have HFIN := Lib.hid (SpRes.full (F := ruleF r) (HK2.out.trans (HK5.out.trans HR7.out.1)) rfl (by have := HT5.out.hl; have := HM.out; omega) hs7 ((HT5.out.trans ht7).mono (show k * 1352 + 1216 + 136 ≤ 6760 by have := HM.out; omega) (show k * 1352 + 1216 + 136 ≤ 6760 by have := HM.out; omega)))
            clear hlt7 hs7 ht7
            go_wp2
            go_ret2
            exact HFIN.out
          · have HS7 := Lib.hid hs7
            have HT7 := Lib.hid ((HT5.out.trans ht7).mono (show k * 1352 + 1216 + 136 ≤ (k + 1) * 1352 by have := HM.out; omega) (show k * 1352 + 1216 + 136 ≤ (k + 1) * 1352 by have := HM.out; omega))
            have HD7 := Lib.hid hd7
            have HK7 := Lib.hid (HK5.out.trans HR7.out.1)
            clear hs7 ht7 hd7 HR7 HAN
            go_wp2
            exact ⟨⟨k + 1, by go_num, by omega, r7, τ7, rfl, HS7, HT7, HD7, HK7⟩, by simp only [intOf]; omega⟩
      · obtain rfl : k = 4 := by omega
        have hI : ¬ ((4 : Nat) : Int) < 4 := by omega
        have hfd := HDR.out
        have hrf : ruleF r = ruleK r 4 := by unfold ruleF; rw [HN.out]
        rw [← hrf] at hfd
        have HFIN : Hid (SpRes w B S km A Mo σ (ruleF r) (6760) (6760) (.returned (.tuple #[.int .i64 q, .int .i64 0])) wr) := Lib.hid ⟨HK2.out.trans HKR.out, .inr ⟨q, τ, rfl, HSR.out, HTR.out.mono ((by omega)) ((by omega)), hfd⟩⟩
        clear hfd hrf
        go_wp2
        go_ret2
        exact HFIN.out
end
end Go.Proofs.YtbahehmfhjkgeaaGreat

/-
  The sets for which each rule of a filter decides, with costs by function (written by wip/gen/genfc.py).
-/
namespace Go.Proofs.YtbahehmfhjkgeaaGreat
open Go Go.RowKit Go.ChangeMaps Go.MapKept Go.Maps Go.Lib Go.Sort

/-- What Rules comes to: a node for each rule, and for what each leaves, or no room. -/
def RulesC (w : World) (B S km : Nat) (A : Blks) (Mo : Nat) (σ : Sg) (L : List RuleV) (k : Nat) (e : Ending) (w' : World) : Prop :=
  KeptS A km w w' ∧ ((e = .returned (.tuple #[.slice none 0 0, .int .i64 3]) ∧ Mo < σ.H.length + k ∧ ∃ τ, SpOk w' B S km A Mo τ ∧ To k k σ τ) ∨
    ∃ (v : Value) (ns : List Nat) (τ : Sg), e = .returned (.tuple #[v, .int .i64 0]) ∧ SpOk w' B S km A Mo τ ∧ To k k σ τ ∧ ns.length = L.length ∧ (∀ i n, ns[i]? = some n → Den τ n (decF L i)) ∧ (∀ i, i ≤ L.length → ∃ g, Den τ g (leftF L i)) ∧ w'.ownsRow w.heap.size 3 1 v ns.length (ncl ns) ∧ OwnF A km S w' v)
theorem RulesC.full {w w' : World} {B S km : Nat} {A : Blks} {Mo : Nat} {σ τ : Sg} {L : List RuleV} {k : Nat} {e : Ending} (hk : KeptS A km w w') (h1 : e = .returned (.tuple #[.slice none 0 0, .int .i64 3])) (h2 : Mo < σ.H.length + k) (h3 : SpOk w' B S km A Mo τ) (h4 : To k k σ τ) : RulesC w B S km A Mo σ L k e w' := ⟨hk, .inl ⟨h1, h2, τ, h3, h4⟩⟩
section
variable {w : World} {B S km : Nat} {A : Blks} {Mo : Nat} {σ : Sg}
set_option maxRecDepth 100000
set_option maxHeartbeats 8000000
theorem rules_c (h : SpOk w B S km A Mo σ) (nm : ByteArray) (L : List RuleV) (vL : Value) (hL : RdF A km w 10 vL L.length (rcells L)) (he : filtE L = 0) (cd cl : Nat → Nat) (hK : ∀ (k : Nat) (r : RuleV), L[k]? = some r → Fits σ (decF L k) (cd k) ∧ Fits σ (leftF L (k + 1)) (cl k)) (hl : σ.N.length + sumTo (rcst cd cl) L.length ≤ 2147483647) :
    Calls Tryz.prog 11 #[.pointer (some ⟨S, 0, none⟩), .agg #[.string nm, vL]] w (RulesC w B S km A Mo σ L (sumTo (rcst cd cl) L.length)) := by
  obtain ⟨hlen, hmay⟩ := rule_may he
  obtain ⟨i0, hif, hz0, hz1, hz2⟩ := info_parts Tryz.infoInt
  obtain ⟨j0, jif, jz0, jz1, jz2⟩ := info_parts Tryz.infoRuleF
  obtain ⟨PL, cL, rfl, _⟩ := hL.rd.form
  have hbw := below1 w (.cells #[.string nm, .slice PL L.length cL] 24)
  have hbk := blk1 w (.cells #[.string nm, .slice PL L.length cL] 24)
  have HL := Lib.hid (hL.kept (h.kept hbw))
  have HS := Lib.hid (h.below hbw)
  have HK0 := Lib.hid (h.kept hbw)
  have HB0 := Lib.hid hbw
  have HBK := Lib.hid hbk
  have HWK := Lib.hid hK
  have HMAY := Lib.hid hmay
  have b0 : (w.alloc (.cells #[.string nm, .slice PL L.length cL] 24)).cell? ⟨w.heap.size, 0, none⟩ = some (.string nm) := cell_of_row _ _ 0 _ _ (0, 0) hbk
  have b1 : (w.alloc (.cells #[.string nm, .slice PL L.length cL] 24)).cell? ⟨w.heap.size, 1, none⟩ = some (.slice PL L.length cL) := cell_of_row _ _ 1 _ _ (0, 0) hbk
  have hck := filtCheck_any nm L _ _ HL.out.rd
  rw [he] at hck
  have HCK := Lib.hid hck
  clear h hL he hbw hbk hK hmay hck
  go_enter Tryz.func11, Tryz.ntmps11
  go_upto_region 1 with fail
  generalize w.alloc (.cells #[.string nm, .slice PL L.length cL] 24) = w0 at *
  go_upto_region 6 with ((with_reducible refine HCK.out.mono ?_); rintro e w2 ⟨rfl, hb2⟩; have HB2 := Lib.hid hb2; clear hb2)
  have HS2 := Lib.hid (HS.out.below HB2.out)
  have HK2 := Lib.hid (HK0.out.trans (HS.out.kept HB2.out))
  have HL2 := Lib.hid (HL.out.kept (HS.out.kept HB2.out))
  have HSZ : Hid (w.heap.size ≤ w2.heap.size) := Lib.hid (Nat.le_trans HB0.out.size HB2.out.size)
  have d1 : w2.cell? ⟨w.heap.size, 1, none⟩ = some (.slice PL L.length cL) := cell_of_row _ _ 1 _ _ (0, 0) (blk_below HB2.out HBK.out)
  clear b0 b1 HCK HB2 HS HL HK0 HBK HB0
  go_wp2
  go_loopw [7, 8, 9, 26] (fun q ov sv i wr => ∃ k : Nat, i = .int .i64 k ∧ k ≤ L.length ∧ ∃ (n : Nat) (τ : Sg) (ns : List Nat) (D : List RuleV), q = .int .i64 n ∧ Hid (RuSt w2 wr B S km A Mo τ ov ns sv D) ∧ Hid (ns.length = k) ∧ Hid (To (sumTo (rcst cd cl) k) (sumTo (rcst cd cl) k) σ τ) ∧ Hid (Den τ n (leftF L k)) ∧ Hid (∀ i m, ns[i]? = some m → Den τ m (decF L i)) ∧ Hid (D.length ≤ k ∧ ∀ d ∈ D, ∃ j x, j < k ∧ L[j]? = some x ∧ ruleF d = ruleF x) ∧ Hid (∀ i, i ≤ k → ∃ g, Den τ g (leftF L i))) (fun _ _ _ i _ => L.length - (intOf i).toNat)
  case atStart => exact ⟨0, rfl, by omega, 1, σ, [], [], rfl, Lib.hid (RuSt.start HS2.out), Lib.hid rfl, Lib.hid (To.refl σ), Lib.hid (Den.one HS2.out.ok), Lib.hid (by simp), Lib.hid ⟨by simp, by simp⟩, Lib.hid fun i hi => ⟨1, by obtain rfl : i = 0 := Nat.le_zero.1 hi; exact Den.one HS2.out.ok⟩⟩
  case round =>
    obtain ⟨k, rfl, hk, n, τ, ns, D, rfl, HR, HNS, HT, HD, HDS, HDD, HLK⟩ := hrel
    obtain ⟨Ao, co, hove, _⟩ := owns_form HR.out.out
    obtain ⟨As, cs, hsve, _⟩ := owns_form HR.out.seen
    subst hove hsve
    by_cases hlt : k < L.length
    · have hI : (k : Int) < (L.length : Int) := by omega
      obtain ⟨r, hr⟩ : ∃ r, L[k]? = some r := ⟨_, List.getElem?_eq_getElem hlt⟩
      obtain ⟨P', c', hv', _, _, hcell⟩ := HL2.out.kept HR.out.kept
      injection hv' with hP hlq hcq
      subst hP hcq
      clear hlq
      obtain ⟨bL, off, rfl, _, _, hcell⟩ := hcell (by omega)
      have r0 : wr.cell? ⟨bL, off + k * 10, none⟩ = some (.bool r.permit) := hcell (k * 10) _ (rcell (i := 0) hr rfl)
      have r1 : wr.cell? ⟨bL, off + k * 10 + 1, none⟩ = some (.int .i64 r.proto) := by have := hcell (k * 10 + 1) _ (rcell (i := 1) hr rfl); rwa [← Nat.add_assoc] at this
      have r2 : wr.cell? ⟨bL, off + k * 10 + 2, none⟩ = some (.int .u32 r.sa) := by have := hcell (k * 10 + 2) _ (rcell (i := 2) hr rfl); rwa [← Nat.add_assoc] at this
      have r3 : wr.cell? ⟨bL, off + k * 10 + 3, none⟩ = some (.int .i64 r.sn) := by have := hcell (k * 10 + 3) _ (rcell (i := 3) hr rfl); rwa [← Nat.add_assoc] at this
      have r4 : wr.cell? ⟨bL, off + k * 10 + 4, none⟩ = some (.int .u32 r.da) := by have := hcell (k * 10 + 4) _ (rcell (i := 4) hr rfl); rwa [← Nat.add_assoc] at this
      have r5 : wr.cell? ⟨bL, off + k * 10 + 5, none⟩ = some (.int .i64 r.dn) := by have := hcell (k * 10 + 5) _ (rcell (i := 5) hr rfl); rwa [← Nat.add_assoc] at this
      have r6 : wr.cell? ⟨bL, off + k * 10 + 6, none⟩ = some (.int .u32 r.sl) := by have := hcell (k * 10 + 6) _ (rcell (i := 6) hr rfl); rwa [← Nat.add_assoc] at this
      have r7 : wr.cell? ⟨bL, off + k * 10 + 7, none⟩ = some (.int .u32 r.sh) := by have := hcell (k * 10 + 7) _ (rcell (i := 7) hr rfl); rwa [← Nat.add_assoc] at this
      have r8 : wr.cell? ⟨bL, off + k * 10 + 8, none⟩ = some (.int .u32 r.dl) := by have := hcell (k * 10 + 8) _ (rcell (i := 8) hr rfl); rwa [← Nat.add_assoc] at this
      have r9 : wr.cell? ⟨bL, off + k * 10 + 9, none⟩ = some (.int .u32 r.dh) := by have := hcell (k * 10 + 9) _ (rcell (i := 9) hr rfl); rwa [← Nat.add_assoc] at this
      have HRR := Lib.hid hr
      have hok := HMAY.out k r hr
      have hwk := HWK.out k r hr
      have HOK := Lib.hid (And.intro hok hwk)
      have hm1 : sumTo (rcst cd cl) (k + 1) ≤ sumTo (rcst cd cl) L.length := sumTo_up _ hlt
      have hm2 : sumTo (rcst cd cl) (k + 1) = sumTo (rcst cd cl) k + (6760 + cd k + cl k) := rfl
      have HM := Lib.hid (And.intro hm1 hm2)
      clear hcell hr hok hwk hm1 hm2
      go_upto_region 13 with fail
      have hb3 := below2 wr (.cells #[.bool r.permit, .int .i64 r.proto, .int .u32 r.sa, .int .i64 r.sn, .int .u32 r.da, .int .i64 r.dn, .int .u32 r.sl, .int .u32 r.sh, .int .u32 r.dl, .int .u32 r.dh] 43) (.cells #[.bool r.permit, .int .i64 r.proto, .int .u32 r.sa, .int .i64 r.sn, .int .u32 r.da, .int .i64 r.dn, .int .u32 r.sl, .int .u32 r.sh, .int .u32 r.dl, .int .u32 r.dh] 43)
      have hs3 : (wr.alloc (.cells #[.bool r.permit, .int .i64 r.proto, .int .u32 r.sa, .int .i64 r.sn, .int .u32 r.da, .int .i64 r.dn, .int .u32 r.sl, .int .u32 r.sh, .int .u32 r.dl, .int .u32 r.dh] 43)).heap.size = wr.heap.size + 1 := by simp
      have ka := blk_below (below1 (wr.alloc (.cells #[.bool r.permit, .int .i64 r.proto, .int .u32 r.sa, .int .i64 r.sn, .int .u32 r.da, .int .i64 r.dn, .int .u32 r.sl, .int .u32 r.sh, .int .u32 r.dl, .int .u32 r.dh] 43)) (.cells #[.bool r.permit, .int .i64 r.proto, .int .u32 r.sa, .int .i64 r.sn, .int .u32 r.da, .int .i64 r.dn, .int .u32 r.sl, .int .u32 r.sh, .int .u32 r.dl, .int .u32 r.dh] 43)) (blk1 wr (.cells #[.bool r.permit, .int .i64 r.proto, .int .u32 r.sa, .int .i64 r.sn, .int .u32 r.da, .int .i64 r.dn, .int .u32 r.sl, .int .u32 r.sh, .int .u32 r.dl, .int .u32 r.dh] 43))
      have kb := blk1 (wr.alloc (.cells #[.bool r.permit, .int .i64 r.proto, .int .u32 r.sa, .int .i64 r.sn, .int .u32 r.da, .int .i64 r.dn, .int .u32 r.sl, .int .u32 r.sh, .int .u32 r.dl, .int .u32 r.dh] 43)) (.cells #[.bool r.permit, .int .i64 r.proto, .int .u32 r.sa, .int .i64 r.sn, .int .u32 r.da, .int .i64 r.dn, .int .u32 r.sl, .int .u32 r.sh, .int .u32 r.dl, .int .u32 r.dh] 43)
      rw [hs3] at kb
      have HR3 := Lib.hid (HR.out.below hb3)
      have HB3 := Lib.hid hb3
      have HA3 := Lib.hid ka
      clear hs3 hb3 r0 r1 r2 r3 r4 r5 r6 r7 r8 r9
      generalize (wr.alloc (.cells #[.bool r.permit, .int .i64 r.proto, .int .u32 r.sa, .int .i64 r.sn, .int .u32 r.da, .int .i64 r.dn, .int .u32 r.sl, .int .u32 r.sh, .int .u32 r.dl, .int .u32 r.dh] 43)).alloc (.cells #[.bool r.permit, .int .i64 r.proto, .int .u32 r.sa, .int .i64 r.sn, .int .u32 r.da, .int .i64 r.dn, .int .u32 r.sl, .int .u32 r.sh, .int .u32 r.dl, .int .u32 r.dh] 43) = w3 at *
      have fz := frozen_of_row w3 _ 0 _ _ kb
      have cz : w3.cell? ⟨wr.heap.size + 1, 0, none⟩ = some (.bool r.permit) := cell_of_row _ _ 0 _ _ (0, 0) kb
      have st : ∀ k, k ≠ wr.heap.size + 1 → (w3.setCell ⟨wr.heap.size + 1, 0, none⟩ (.bool false)).heap[k]? = w3.heap[k]? := fun k hk => Below.heap_setCell w3 ⟨wr.heap.size + 1, 0, none⟩ _ k hk
      have hsz : (w3.setCell ⟨wr.heap.size + 1, 0, none⟩ (.bool false)).heap.size = w3.heap.size := by simp [World.setCell]
      have hb4 : Below wr.heap.size wr (w3.setCell ⟨wr.heap.size + 1, 0, none⟩ (.bool false)) := ⟨HB3.out.os, HB3.out.tape, HB3.out.output, by have := HB3.out.size; omega, fun k hk => (st k (by omega)).trans (HB3.out.block k hk)⟩
      have kb4 : (w3.setCell ⟨wr.heap.size + 1, 0, none⟩ (.bool false)).heap[wr.heap.size + 1]? = some (.cells #[.bool (anyR r).permit, .int .i64 (anyR r).proto, .int .u32 (anyR r).sa, .int .i64 (anyR r).sn, .int .u32 (anyR r).da, .int .i64 (anyR r).dn, .int .u32 (anyR r).sl, .int .u32 (anyR r).sh, .int .u32 (anyR r).dl, .int .u32 (anyR r).dh] 43 (0, 0)) := heap_setCell_same _ _ _ _ _ _ kb
      have ka4 := (st wr.heap.size (by omega)).trans ka
      have HR4 := Lib.hid (HR.out.below hb4)
      have HKA := Lib.hid ka4
      have HKB := Lib.hid kb4
      have HB4 := Lib.hid hb4
      clear st hsz hb4 kb4 ka4 ka kb HR3 HB3 HA3
      go_upto_region 14 with fail
      clear fz cz
      generalize w3.setCell ⟨wr.heap.size + 1, 0, none⟩ (.bool false) = w4 at *
      have HCON := Lib.hid (containsRule_any D _ (fun x => sameR x (anyR r)) 50 #[.pointer (some ⟨wr.heap.size + 1, 0, none⟩)] w4 (enters_of Tryz.func50 (by kernel_rfl) rfl) (rulesEq_pred (anyR r) _ w4 HKB.out) (Rd.of_own HR4.out.seen) (by have := HDD.out.1; omega))
      have HANY := Lib.hid (show D.any (fun x => sameR x (anyR r)) = true → leftF L (k + 1) = leftF L k ∧ decF L k = fun _ => false from fun ha => by
        obtain ⟨d, hd, hs⟩ := List.any_eq_true.1 ha
        obtain ⟨j, x, hj, hx, hdx⟩ := HDD.out.2 d hd
        have he := sameR_eq hs
        subst he
        rw [ruleF_any] at hdx
        have hsub : ∀ s, ruleF r s = true → leftF L k s = false := fun s hs => by
          unfold leftF
          rw [Bool.not_eq_false', List.any_eq_true]
          refine ⟨x, List.mem_of_getElem? (i := j) (by rw [List.getElem?_take_of_lt hj]; exact hx), ?_⟩
          rw [← hdx]; exact hs
        refine ⟨?_, ?_⟩
        · rw [leftF_succ HRR.out]
          funext s
          cases h : ruleF r s
          · simp
          · rw [hsub s h]; rfl
        · rw [decF_eq HRR.out]
          funext s
          cases h : ruleF r s
          · simp
          · rw [hsub s h]; rfl)
      generalize hB : D.any (fun x => sameR x (anyR r)) = Bv at *
      clear hB
      go_wp2_with fail
      refine HCON.out.mono ?_
      rintro e w5 ⟨rfl, hb5⟩
      have HR5 := Lib.hid (HR4.out.below hb5)
      have HKA5 := Lib.hid (blk_below hb5 HKA.out)
      have HKB5 := Lib.hid (blk_below hb5 HKB.out)
      have HB5 := Lib.hid (HB4.out.trans (hb5.mono HB4.out.size))
      have hbs := HR5.out.kept.size
      have hnl := HNS.out
      have hml : ns.length ≤ 1099511627776 := by omega
      clear hb5 HR4 HKA HKB HB4 HCON hnl
      cases Bv with
      | true =>
        obtain ⟨hlf, hdf⟩ := HANY.out rfl
        have HLF := Lib.hid hlf
        have HDF := Lib.hid hdf
        clear hlf hdf HANY
        go_wp2_with (at_builtin; refine wpList_push2 (v := .slice Ao ns.length co) rfl _ _ 33 rfl 3 i0 _ 1 8 Tryz.underlying33 hif hz0 hz1 hz2 rfl (by decide) (by decide) [.int .i64 0] rfl rfl rfl HR5.out.out rfl (one_i64 _) hml hbs ?_; intro v6 w6 ho6 hg6 hm6; have HR6 := Lib.hid (HR5.out.pushOut (n := 0) ho6 hg6 hm6); obtain ⟨A6, c6, hv6, _⟩ := owns_form ho6; subst hv6; clear ho6 hg6 hm6)
        exact ⟨⟨k + 1, by go_num, by omega, n, τ, ns ++ [0], D, rfl, HR6, Lib.hid (by simp [HNS.out]), Lib.hid (HT.out.mono (by have := HM.out; omega) (by have := HM.out; omega)), Lib.hid (by rw [HLF.out]; exact HD.out), Lib.hid (den_snoc HDS.out HNS.out (by rw [HDF.out]; exact Den.zero HR6.out.sp.ok)), Lib.hid ⟨by have := HDD.out.1; omega, fun d hd => by obtain ⟨j, x, h1, h2, h3⟩ := HDD.out.2 d hd; exact ⟨j, x, by omega, h2, h3⟩⟩, Lib.hid fun i hi => by
          rcases Nat.lt_or_ge k i with h1 | h1
          · obtain rfl : i = k + 1 := by omega
            exact ⟨n, by rw [HLF.out]; exact HD.out⟩
          · exact HLK.out i h1⟩, by simp only [intOf]; omega⟩
      | false =>
        clear HANY
        have a0 : w5.cell? ⟨wr.heap.size + 1, 0, none⟩ = some (.bool (anyR r).permit) := cell_of_row _ _ 0 _ _ (0, 0) HKB5.out
        have a1 : w5.cell? ⟨wr.heap.size + 1, 1, none⟩ = some (.int .i64 (anyR r).proto) := cell_of_row _ _ 1 _ _ (0, 0) HKB5.out
        have a2 : w5.cell? ⟨wr.heap.size + 1, 2, none⟩ = some (.int .u32 (anyR r).sa) := cell_of_row _ _ 2 _ _ (0, 0) HKB5.out
        have a3 : w5.cell? ⟨wr.heap.size + 1, 3, none⟩ = some (.int .i64 (anyR r).sn) := cell_of_row _ _ 3 _ _ (0, 0) HKB5.out
        have a4 : w5.cell? ⟨wr.heap.size + 1, 4, none⟩ = some (.int .u32 (anyR r).da) := cell_of_row _ _ 4 _ _ (0, 0) HKB5.out
        have a5 : w5.cell? ⟨wr.heap.size + 1, 5, none⟩ = some (.int .i64 (anyR r).dn) := cell_of_row _ _ 5 _ _ (0, 0) HKB5.out
        have a6 : w5.cell? ⟨wr.heap.size + 1, 6, none⟩ = some (.int .u32 (anyR r).sl) := cell_of_row _ _ 6 _ _ (0, 0) HKB5.out
        have a7 : w5.cell? ⟨wr.heap.size + 1, 7, none⟩ = some (.int .u32 (anyR r).sh) := cell_of_row _ _ 7 _ _ (0, 0) HKB5.out
        have a8 : w5.cell? ⟨wr.heap.size + 1, 8, none⟩ = some (.int .u32 (anyR r).dl) := cell_of_row _ _ 8 _ _ (0, 0) HKB5.out
        have a9 : w5.cell? ⟨wr.heap.size + 1, 9, none⟩ = some (.int .u32 (anyR r).dh) := cell_of_row _ _ 9 _ _ (0, 0) HKB5.out
        have hdl : D.length ≤ 1099511627776 := by have := HDD.out.1; omega
        have HLTS := Lib.hid (fun g hg => (HR.out.seen.lt g hg).2)
        go_upto_region 17 with (at_builtin; refine wpList_push2 (v := .slice As D.length cs) rfl _ _ 22 rfl 43 j0 _ 10 64 Tryz.underlying22 jif jz0 jz1 jz2 rfl (by decide) (by decide) (anyR r).enc rfl rfl rfl HR5.out.seen rfl (by intro u hu; simp only [RuleV.enc, List.mem_cons, List.not_mem_nil, or_false] at hu; rcases hu with rfl | rfl | rfl | rfl | rfl | rfl | rfl | rfl | rfl | rfl <;> rfl) hdl hbs ?_; intro v6 w6 ho6 hg6 hm6; have HR6 := Lib.hid (HR5.out.pushSeen ho6 hg6 hm6); have HKA6 := Lib.hid ((hg6.block _ (lt_of_block HKA5.out) (fun e => by have := HLTS.out _ e.symm; omega)).trans HKA5.out); obtain ⟨A6, c6, hv6, _⟩ := owns_form ho6; subst hv6; clear ho6 hg6 hm6)
        clear a0 a1 a2 a3 a4 a5 a6 a7 a8 a9 HKA5 HKB5 HR5 HLTS hdl hbs
        have e0 : w6.cell? ⟨wr.heap.size, 0, none⟩ = some (.bool r.permit) := cell_of_row _ _ 0 _ _ (0, 0) HKA6.out
        have e1 : w6.cell? ⟨wr.heap.size, 1, none⟩ = some (.int .i64 r.proto) := cell_of_row _ _ 1 _ _ (0, 0) HKA6.out
        have e2 : w6.cell? ⟨wr.heap.size, 2, none⟩ = some (.int .u32 r.sa) := cell_of_row _ _ 2 _ _ (0, 0) HKA6.out
        have e3 : w6.cell? ⟨wr.heap.size, 3, none⟩ = some (.int .i64 r.sn) := cell_of_row _ _ 3 _ _ (0, 0) HKA6.out
        have e4 : w6.cell? ⟨wr.heap.size, 4, none⟩ = some (.int .u32 r.da) := cell_of_row _ _ 4 _ _ (0, 0) HKA6.out
        have e5 : w6.cell? ⟨wr.heap.size, 5, none⟩ = some (.int .i64 r.dn) := cell_of_row _ _ 5 _ _ (0, 0) HKA6.out
        have e6 : w6.cell? ⟨wr.heap.size, 6, none⟩ = some (.int .u32 r.sl) := cell_of_row _ _ 6 _ _ (0, 0) HKA6.out
        have e7 : w6.cell? ⟨wr.heap.size, 7, none⟩ = some (.int .u32 r.sh) := cell_of_row _ _ 7 _ _ (0, 0) HKA6.out
        have e8 : w6.cell? ⟨wr.heap.size, 8, none⟩ = some (.int .u32 r.dl) := cell_of_row _ _ 8 _ _ (0, 0) HKA6.out
        have e9 : w6.cell? ⟨wr.heap.size, 9, none⟩ = some (.int .u32 r.dh) := cell_of_row _ _ 9 _ _ (0, 0) HKA6.out
        have hnl := HT.out.nl
        have hm := HM.out
        have HRU := Lib.hid (rule_c HR6.out.sp r HOK.out.1 (by omega))
        clear hnl hm HKA6
        go_upto_region 18 with ((with_reducible refine HRU.out.mono ?_); rintro e w7 hr7; obtain ⟨q7, c7, he7⟩ := hr7.form; have HR7 := Lib.hid hr7; subst he7; clear hr7)
        clear e0 e1 e2 e3 e4 e5 e6 e7 e8 e9
        rcases HR7.out.two with ⟨rfl, rfl, hlt7, τ7, hs7, ht7⟩ | ⟨r7, τ7, rfl, rfl, hs7, ht7, hd7⟩
        · have HFIN := Lib.hid (RulesC.full (L := L) (HK2.out.trans (HR6.out.kept.trans HR7.out.1)) rfl (by have := HT.out.hl; have := HM.out; omega) hs7 ((HT.out.trans ht7).mono (show sumTo (rcst cd cl) k + 6760 ≤ sumTo (rcst cd cl) L.length by have := HM.out; omega) (show sumTo (rcst cd cl) k + 6760 ≤ sumTo (rcst cd cl) L.length by have := HM.out; omega)))
          clear hlt7 hs7 ht7
          go_wp2
          go_ret2
          exact HFIN.out
        · have HS7 := Lib.hid (HR6.out.space HR7.out.1 hs7)
          have HT7 := Lib.hid (HT.out.trans ht7)
          have HD7 := Lib.hid hd7
          have HL7 := Lib.hid (HD.out.to ht7 HR6.out.sp.ok hs7.ok)
          have HDS7 : Hid (∀ i m, ns[i]? = some m → Den τ7 m (decF L i)) := Lib.hid fun i m hi => (HDS.out i m hi).to ht7 HR6.out.sp.ok hs7.ok
          have HLK7 : Hid (∀ i, i ≤ k → ∃ g, Den τ7 g (leftF L i)) := Lib.hid fun i hi => by obtain ⟨g, hg⟩ := HLK.out i hi; exact ⟨g, hg.to ht7 HR6.out.sp.ok hs7.ok⟩
          have hnl := HT7.out.nl
          have hm := HM.out
          have hde : decF L k = fun s => leftF L k s && ruleF r s := decF_eq HRR.out
          have hwd := HOK.out.2.1
          rw [hde] at hwd
          have HAN := Lib.hid (show Calls Tryz.prog 14 #[.pointer (some ⟨S, 0, none⟩), .int .i64 n, .int .i64 r7] w7 (SpRes w7 B S km A Mo τ7 (fun s => leftF L k s && ruleF r s) (cd k) (cd k)) from relAnd_yes hs7 HL7.out hd7 (leftF_set L k) (ruleK_set r _) (a := cd k) (b := cd k) (hwd.grow HT7.out HS2.out.ok hs7.ok) (by omega))
          have HDE := Lib.hid hde
          clear hs7 ht7 hd7 HR7 HRU hnl hm hde hwd
          go_upto_region 21 with ((with_reducible refine HAN.out.mono ?_); rintro e w8 hr8; obtain ⟨q8, c8, he8⟩ := hr8.form; have HR8 := Lib.hid hr8; subst he8; clear hr8)
          rcases HR8.out.two with ⟨rfl, rfl, hlt8, τ8, hs8, ht8⟩ | ⟨r8, τ8, rfl, rfl, hs8, ht8, hd8⟩
          · have HFIN := Lib.hid (RulesC.full (L := L) (HK2.out.trans (HS7.out.kept.trans HR8.out.1)) rfl (by have := HT7.out.hl; have := HM.out; omega) hs8 ((HT7.out.trans ht8).mono (show sumTo (rcst cd cl) k + 6760 + cd k ≤ sumTo (rcst cd cl) L.length by have := HM.out; omega) (show sumTo (rcst cd cl) k + 6760 + cd k ≤ sumTo (rcst cd cl) L.length by have := HM.out; omega)))
            clear hlt8 hs8 ht8
            go_wp2
            go_ret2
            exact HFIN.out
          · have HS8 := Lib.hid (HS7.out.space HR8.out.1 hs8)
            have HT8 := Lib.hid (HT7.out.trans ht8)
            have HD8 : Hid (Den τ8 r8 (decF L k)) := Lib.hid (by rw [HDE.out]; exact hd8)
            have HX8 := Lib.hid (HD7.out.to ht8 HS7.out.sp.ok hs8.ok)
            have HL8 := Lib.hid (HL7.out.to ht8 HS7.out.sp.ok hs8.ok)
            have HDS8 : Hid (∀ i m, ns[i]? = some m → Den τ8 m (decF L i)) := Lib.hid fun i m hi => (HDS7.out i m hi).to ht8 HS7.out.sp.ok hs8.ok
            have HLK8 : Hid (∀ i, i ≤ k → ∃ g, Den τ8 g (leftF L i)) := Lib.hid fun i hi => by obtain ⟨g, hg⟩ := HLK7.out i hi; exact ⟨g, hg.to ht8 HS7.out.sp.ok hs8.ok⟩
            have hnl := HT8.out.nl
            have hm := HM.out
            have hde : leftF L (k + 1) = fun s => leftF L k s && !ruleF r s := leftF_succ HRR.out
            have hwd := HOK.out.2.2
            rw [hde] at hwd
            have HLE := Lib.hid (show Calls Tryz.prog 32 #[.pointer (some ⟨S, 0, none⟩), .int .i64 n, .int .i64 r7] w8 (SpRes w8 B S km A Mo τ8 (fun s => leftF L k s && !ruleF r s) (cl k) (cl k)) from relLess_yes hs8 HL8.out HX8.out (leftF_set L k) (ruleK_set r _) (a := cl k) (b := cl k) (hwd.grow HT8.out HS2.out.ok hs8.ok) (by omega))
            have HDE2 := Lib.hid hde
            clear hs8 ht8 hd8 HR8 HAN hnl hm hde hwd HDS7 HL7 HD7 HS7 HT7 HDE
            go_upto_region 24 with ((with_reducible refine HLE.out.mono ?_); rintro e w9 hr9; obtain ⟨q9, c9, he9⟩ := hr9.form; have HR9 := Lib.hid hr9; subst he9; clear hr9)
            rcases HR9.out.two with ⟨rfl, rfl, hlt9, τ9, hs9, ht9⟩ | ⟨r9, τ9, rfl, rfl, hs9, ht9, hd9⟩
            · have HFIN := Lib.hid (RulesC.full (L := L) (HK2.out.trans (HS8.out.kept.trans HR9.out.1)) rfl (by have := HT8.out.hl; have := HM.out; omega) hs9 ((HT8.out.trans ht9).mono (show sumTo (rcst cd cl) k + 6760 + cd k + cl k ≤ sumTo (rcst cd cl) L.length by have := HM.out; omega) (show sumTo (rcst cd cl) k + 6760 + cd k + cl k ≤ sumTo (rcst cd cl) L.length by have := HM.out; omega)))
              clear hlt9 hs9 ht9
              go_wp2
              go_ret2
              exact HFIN.out
            · have HS9 := Lib.hid (HS8.out.space HR9.out.1 hs9)
              have HT9 := Lib.hid ((HT8.out.trans ht9).mono (show sumTo (rcst cd cl) k + 6760 + cd k + cl k ≤ sumTo (rcst cd cl) (k + 1) by have := HM.out; omega) (show sumTo (rcst cd cl) k + 6760 + cd k + cl k ≤ sumTo (rcst cd cl) (k + 1) by have := HM.out; omega))
              have HD9 : Hid (Den τ9 r9 (leftF L (k + 1))) := Lib.hid (by rw [HDE2.out]; exact hd9)
              have HX9 := Lib.hid (HD8.out.to ht9 HS8.out.sp.ok hs9.ok)
              have HDS9 : Hid (∀ i m, ns[i]? = some m → Den τ9 m (decF L i)) := Lib.hid fun i m hi => (HDS8.out i m hi).to ht9 HS8.out.sp.ok hs9.ok
              have HLK9 : Hid (∀ i, i ≤ k → ∃ g, Den τ9 g (leftF L i)) := Lib.hid fun i hi => by obtain ⟨g, hg⟩ := HLK8.out i hi; exact ⟨g, hg.to ht9 HS8.out.sp.ok hs9.ok⟩
              have hbs := HS9.out.kept.size
              clear hs9 ht9 hd9 HR9 HLE HS8 HT8 HD8 HX8 HL8 HDS8 HDE2
              go_wp2_with (at_builtin; refine wpList_push2 (v := .slice Ao ns.length co) rfl _ _ 33 rfl 3 i0 _ 1 8 Tryz.underlying33 hif hz0 hz1 hz2 rfl (by decide) (by decide) [.int .i64 r8] rfl rfl rfl HS9.out.out rfl (one_i64 _) hml hbs ?_; intro v10 w10 ho10 hg10 hm10; have HR10 := Lib.hid (HS9.out.pushOut (n := r8) ho10 hg10 hm10); obtain ⟨A10, c10, hv10, _⟩ := owns_form ho10; subst hv10; clear ho10 hg10 hm10)
              exact ⟨⟨k + 1, by go_num, by omega, r9, τ9, ns ++ [r8], D ++ [anyR r], rfl, HR10, Lib.hid (by simp [HNS.out]), HT9, HD9, Lib.hid (den_snoc HDS9.out HNS.out HX9.out), Lib.hid ⟨by have := HDD.out.1; simp; omega, fun d hd => by
                rcases List.mem_append.1 hd with hd | hd
                · obtain ⟨j, x, h1, h2, h3⟩ := HDD.out.2 d hd
                  exact ⟨j, x, by omega, h2, h3⟩
                · obtain rfl := List.mem_singleton.1 hd
                  exact ⟨k, r, by omega, HRR.out, ruleF_any r⟩⟩, Lib.hid fun i hi => by
                rcases Nat.lt_or_ge k i with h1 | h1
                · obtain rfl : i = k + 1 := by omega
                  exact ⟨r9, HD9.out⟩
                · exact HLK9.out i h1⟩, by simp only [intOf]; omega⟩
    · obtain rfl : k = L.length := by omega
      have hI : ¬ (L.length : Int) < (L.length : Int) := by omega
      have HFIN : Hid (RulesC w B S km A Mo σ L (sumTo (rcst cd cl) L.length) (.returned (.tuple #[.slice Ao ns.length co, .int .i64 0])) wr) := Lib.hid ⟨HK2.out.trans HR.out.kept, .inr ⟨_, ns, τ, rfl, HR.out.sp, HT.out, HNS.out, HDS.out, HLK.out, owns_base HR.out.out HSZ.out, HR.out.outf⟩⟩
      go_wp2
      go_ret2
      exact HFIN.out
end
end Go.Proofs.YtbahehmfhjkgeaaGreat

/-
  What a filter permits, with costs by function (written by wip/gen/genfc.py).
-/
namespace Go.Proofs.YtbahehmfhjkgeaaGreat
open Go Go.RowKit Go.ChangeMaps Go.MapKept Go.Maps Go.Lib Go.Sort

/-- What Set comes to: the node of what is permitted, and all on the way has nodes; or no room. -/
def SetC (w : World) (B S km : Nat) (A : Blks) (Mo : Nat) (σ : Sg) (L : List RuleV) (m : Nat) (e : Ending) (w' : World) : Prop :=
  KeptS A km w w' ∧ ((e = .returned (.tuple #[.int .i64 0, .int .i64 3]) ∧ Mo < σ.H.length + m ∧ ∃ τ, SpOk w' B S km A Mo τ ∧ To m m σ τ) ∨
    ∃ (r : Nat) (τ : Sg), e = .returned (.tuple #[.int .i64 r, .int .i64 0]) ∧ SpOk w' B S km A Mo τ ∧ To m m σ τ ∧ Den τ r (setF L L.length) ∧ (∀ i, i < L.length → ∃ g, Den τ g (decF L i)) ∧ (∀ i, i ≤ L.length → ∃ g, Den τ g (leftF L i)) ∧ ∀ i, i ≤ L.length → ∃ g, Den τ g (setF L i))
theorem SetC.full {w w' : World} {B S km : Nat} {A : Blks} {Mo : Nat} {σ τ : Sg} {L : List RuleV} {m : Nat} {e : Ending} (hk : KeptS A km w w') (h1 : e = .returned (.tuple #[.int .i64 0, .int .i64 3])) (h2 : Mo < σ.H.length + m) (h3 : SpOk w' B S km A Mo τ) (h4 : To m m σ τ) : SetC w B S km A Mo σ L m e w' := ⟨hk, .inl ⟨h1, h2, τ, h3, h4⟩⟩
theorem SetC.room {w w' : World} {B S km : Nat} {A : Blks} {Mo : Nat} {σ : Sg} {L : List RuleV} {m : Nat} {e : Ending} (h : SetC w B S km A Mo σ L m e w') (hm : σ.H.length + m ≤ Mo) : ∃ (r : Nat) (τ : Sg), e = .returned (.tuple #[.int .i64 r, .int .i64 0]) ∧ SpOk w' B S km A Mo τ ∧ To m m σ τ ∧ Den τ r (setF L L.length) ∧ (∀ i, i < L.length → ∃ g, Den τ g (decF L i)) ∧ (∀ i, i ≤ L.length → ∃ g, Den τ g (leftF L i)) ∧ ∀ i, i ≤ L.length → ∃ g, Den τ g (setF L i) := by
  rcases h.2 with ⟨_, h1, _⟩ | h
  · omega
  · exact h
section
variable {w : World} {B S km : Nat} {A : Blks} {Mo : Nat} {σ : Sg}
set_option maxRecDepth 100000
set_option maxHeartbeats 8000000
theorem set_c (h : SpOk w B S km A Mo σ) (nm : ByteArray) (L : List RuleV) (vL : Value) (hL : RdF A km w 10 vL L.length (rcells L)) (he : filtE L = 0) (cd cl cs : Nat → Nat) (hK : ∀ (k : Nat) (r : RuleV), L[k]? = some r → Fits σ (decF L k) (cd k) ∧ Fits σ (leftF L (k + 1)) (cl k)) (hKs : ∀ k, k < L.length → Fits σ (setF L (k + 1)) (cs k)) (hl : σ.N.length + (sumTo (rcst cd cl) L.length + sumTo cs L.length) ≤ 2147483647) :
    Calls Tryz.prog 10 #[.pointer (some ⟨S, 0, none⟩), .agg #[.string nm, vL]] w (SetC w B S km A Mo σ L (sumTo (rcst cd cl) L.length + sumTo cs L.length)) := by
  obtain ⟨hlen, _⟩ := rule_may he
  obtain ⟨PL, cL, rfl, _⟩ := hL.rd.form
  have hbw := below1 w (.cells #[.string nm, .slice PL L.length cL] 24)
  have hbk := blk1 w (.cells #[.string nm, .slice PL L.length cL] 24)
  have hmul : sumTo (rcst cd cl) L.length + sumTo cs L.length = sumTo (rcst cd cl) L.length + sumTo cs L.length := rfl
  have HL := Lib.hid (hL.kept (h.kept hbw))
  have HS := Lib.hid (h.below hbw)
  have HK0 := Lib.hid (h.kept hbw)
  have HFO := Lib.hid (h.sp.ar.foreign_new hbw (Nat.le_refl _) (lt_of_block hbk))
  have HNE : Hid (w.heap.size ≠ km) := Lib.hid (by have := h.sp.fk.1; omega)
  have HBK := Lib.hid hbk
  have b0 : (w.alloc (.cells #[.string nm, .slice PL L.length cL] 24)).cell? ⟨w.heap.size, 0, none⟩ = some (.string nm) := cell_of_row _ _ 0 _ _ (0, 0) hbk
  have b1 : (w.alloc (.cells #[.string nm, .slice PL L.length cL] 24)).cell? ⟨w.heap.size, 1, none⟩ = some (.slice PL L.length cL) := cell_of_row _ _ 1 _ _ (0, 0) hbk
  have HRU := Lib.hid (rules_c HS.out nm L _ HL.out he cd cl hK (by omega))
  have HWS := Lib.hid hKs
  have HMUL := Lib.hid (And.intro hmul hl)
  clear h hL he hbw hbk hK hKs hmul hl
  go_enter Tryz.func10, Tryz.ntmps10
  go_upto_region 1 with fail
  generalize w.alloc (.cells #[.string nm, .slice PL L.length cL] 24) = w0 at *
  go_wp2_with fail
  refine HRU.out.mono ?_
  rintro e w2 ⟨hk2, hres⟩
  have HK2 := Lib.hid hk2
  rcases hres with ⟨rfl, hlt2, τ2, hs2, ht2⟩ | ⟨v, ns, τ2, rfl, hs2, ht2, hns, hds, hlk, hown, hof⟩
  · have HFIN := Lib.hid (SetC.full (L := L) (HK0.out.trans hk2) rfl (by have := HMUL.out.1; omega) hs2 (ht2.mono (show sumTo (rcst cd cl) L.length ≤ (sumTo (rcst cd cl) L.length + sumTo cs L.length) by have := HMUL.out.1; omega) (show sumTo (rcst cd cl) L.length ≤ (sumTo (rcst cd cl) L.length + sumTo cs L.length) by have := HMUL.out.1; omega)))
    clear hlt2 hs2 ht2 hk2
    go_wp2
    go_ret2
    exact HFIN.out
  · obtain ⟨Av, cv, hve, hav⟩ := owns_form hown
    subst hve
    have HS2 := Lib.hid hs2
    have HT2 := Lib.hid ht2
    have HD2 := Lib.hid hds
    have HLK2 := Lib.hid hlk
    have HNS := Lib.hid hns
    have HOW := Lib.hid hown
    have HOF := Lib.hid hof
    have HAV := Lib.hid hav
    have HL2 := Lib.hid (HL.out.kept hk2)
    have HBX : Hid (∀ W, KeptS A km w2 W → W.cell? ⟨w.heap.size, 1, none⟩ = some (.slice PL L.length cL)) := Lib.hid fun W hW =>
      cell_of_row W _ 1 _ _ (0, 0) (((hk2.trans hW).same _ HFO.out HNE.out).1.trans HBK.out)
    have hnI : (ns.length : Int) = (L.length : Int) := by omega
    rw [hns]
    clear hs2 ht2 hds hlk hown hof hav hk2 b0 b1 HRU HFO HNE HBK HL hnI
    have hns' := HNS.out
    clear hns
    go_wp2
    go_loopw [8, 22] (fun f i wr => ∃ k : Nat, i = .int .i64 k ∧ k ≤ L.length ∧ ∃ (q : Nat) (τ : Sg), f = .int .i64 q ∧ Hid (SpOk wr B S km A Mo τ) ∧ Hid (To (sumTo (rcst cd cl) L.length + sumTo cs k) (sumTo (rcst cd cl) L.length + sumTo cs k) σ τ) ∧ Hid (To (sumTo cs k) (sumTo cs k) τ2 τ) ∧ Hid (Den τ q (setF L k)) ∧ Hid (KeptS A km w2 wr) ∧ Hid (∀ i, i ≤ k → ∃ g, Den τ g (setF L i))) (fun _ i _ => L.length - (intOf i).toNat)
    case atStart => exact ⟨0, rfl, by omega, 0, τ2, rfl, HS2, Lib.hid HT2.out, Lib.hid (To.refl τ2), Lib.hid (Den.zero HS2.out.ok), Lib.hid (KeptS.refl _ _ _), Lib.hid fun i hi => ⟨0, by obtain rfl : i = 0 := Nat.le_zero.1 hi; exact Den.zero HS2.out.ok⟩⟩
    case round =>
      obtain ⟨k, rfl, hk, q, τ, rfl, HSR, HTR, HTT, HDR, HKR, HSK⟩ := hrel
      have b1 := HBX.out wr HKR.out
      by_cases hlt : k < L.length
      · have hI : (k : Int) < (L.length : Int) := by omega
        obtain ⟨r, hr⟩ : ∃ r, L[k]? = some r := ⟨_, List.getElem?_eq_getElem hlt⟩
        obtain ⟨P', c', hv', _, _, hcell⟩ := HL2.out.kept HKR.out
        injection hv' with hP hlq hcq
        subst hP hcq
        clear hlq
        obtain ⟨bL, off, rfl, _, _, hcell⟩ := hcell (by omega)
        have r0 : wr.cell? ⟨bL, off + k * 10, none⟩ = some (.bool r.permit) := hcell (k * 10) _ (rcell (i := 0) hr rfl)
        obtain ⟨x, hx⟩ : ∃ x, ns[k]? = some x := ⟨_, List.getElem?_eq_getElem (by have := HNS.out; omega)⟩
        obtain ⟨g, hg⟩ := HAV.out (by have := HNS.out; omega)
        subst hg
        have hfo := HOF.out g rfl
        have hxc : wr.cell? ⟨g, k, none⟩ = some (.int .i64 x) := (World.cell?_of_block (HKR.out.same g hfo.1 hfo.2.1).1).trans ((HOW.out.cellAt k (by have := HNS.out; omega)).trans (by simp [ncl, hx]))
        have HDX := Lib.hid ((HD2.out k x hx).to HTT.out HS2.out.ok HSR.out.ok)
        have hpa : permitAt L k = r.permit := by unfold permitAt; rw [hr]; rfl
        have hm1 : sumTo cs (k + 1) ≤ sumTo cs L.length := sumTo_up _ hlt
        have hm2 : sumTo cs (k + 1) = sumTo cs k + cs k := rfl
        have HM := Lib.hid (And.intro hm1 hm2)
        have hwk := HWS.out k (by omega)
        have HSF : Hid (setF L (k + 1) = if r.permit then fun s => setF L k s || decF L k s else setF L k) := Lib.hid (by rw [← hpa]; rfl)
        clear hcell hr hx hfo hm1 hm2 hpa
        cases hp : r.permit with
        | false =>
          rw [hp] at r0 HSF
          have HD8 : Hid (Den τ q (setF L (k + 1))) := Lib.hid (by rw [HSF.out]; exact HDR.out)
          have HT8 := Lib.hid (HTR.out.mono (show sumTo (rcst cd cl) L.length + sumTo cs k ≤ sumTo (rcst cd cl) L.length + sumTo cs (k + 1) by have := HM.out; omega) (show sumTo (rcst cd cl) L.length + sumTo cs k ≤ sumTo (rcst cd cl) L.length + sumTo cs (k + 1) by have := HM.out; omega))
          have HTT8 := Lib.hid (HTT.out.mono (show sumTo cs k ≤ sumTo cs (k + 1) by have := HM.out; omega) (show sumTo cs k ≤ sumTo cs (k + 1) by have := HM.out; omega))
          clear hp hwk
          go_wp2
          exact ⟨⟨k + 1, by go_num, by omega, q, τ, rfl, HSR, HT8, HTT8, HD8, HKR, Lib.hid fun i hi => by
            rcases Nat.lt_or_ge k i with h1 | h1
            · obtain rfl : i = k + 1 := by omega
              exact ⟨q, HD8.out⟩
            · exact HSK.out i h1⟩, by simp only [intOf]; omega⟩
        | true =>
          rw [hp] at r0 HSF
          have hnl := HTR.out.nl
          have hmm := HMUL.out
          have hm := HM.out
          have hsf : setF L (k + 1) = fun s => setF L k s || decF L k s := by rw [HSF.out]; rfl
          rw [hsf] at hwk
          have HOR := Lib.hid (show Calls Tryz.prog 31 #[.pointer (some ⟨S, 0, none⟩), .int .i64 q, .int .i64 x] wr (SpRes wr B S km A Mo τ (fun s => setF L k s || decF L k s) (cs k) (cs k)) from relOr_yes HSR.out HDR.out HDX.out (setF_set L k) (decF_set' L k) (a := cs k) (b := cs k) (hwk.grow HTR.out HS.out.ok HSR.out.ok) (by omega))
          have HSF2 := Lib.hid hsf
          clear hnl hmm hm hwk hsf hp
          go_upto_region 10 with ((with_reducible refine HOR.out.mono ?_); rintro e w8 hr8; obtain ⟨q8, c8, he8⟩ := hr8.form; have HR8 := Lib.hid hr8; subst he8; clear hr8)
          rcases HR8.out.two with ⟨rfl, rfl, hlt8, τ8, hs8, ht8⟩ | ⟨r8, τ8, rfl, rfl, hs8, ht8, hd8⟩
          · have HFIN := Lib.hid (SetC.full (L := L) (HK0.out.trans (HK2.out.trans (HKR.out.trans HR8.out.1))) rfl (by have := HTR.out.hl; have := HM.out; have := HMUL.out.1; omega) hs8 ((HTR.out.trans ht8).mono (show sumTo (rcst cd cl) L.length + sumTo cs k + cs k ≤ (sumTo (rcst cd cl) L.length + sumTo cs L.length) by have := HM.out; have := HMUL.out.1; omega) (show sumTo (rcst cd cl) L.length + sumTo cs k + cs k ≤ (sumTo (rcst cd cl) L.length + sumTo cs L.length) by have := HM.out; have := HMUL.out.1; omega)))
            clear hlt8 hs8 ht8
            go_wp2
            go_ret2
            exact HFIN.out
          · have HS8 := Lib.hid hs8
            have HT8 := Lib.hid ((HTR.out.trans ht8).mono (show sumTo (rcst cd cl) L.length + sumTo cs k + cs k ≤ sumTo (rcst cd cl) L.length + sumTo cs (k + 1) by have := HM.out; omega) (show sumTo (rcst cd cl) L.length + sumTo cs k + cs k ≤ sumTo (rcst cd cl) L.length + sumTo cs (k + 1) by have := HM.out; omega))
            have HTT8 := Lib.hid ((HTT.out.trans ht8).mono (show sumTo cs k + cs k ≤ sumTo cs (k + 1) by have := HM.out; omega) (show sumTo cs k + cs k ≤ sumTo cs (k + 1) by have := HM.out; omega))
            have HD8 : Hid (Den τ8 r8 (setF L (k + 1))) := Lib.hid (by rw [HSF2.out]; exact hd8)
            have HK8 := Lib.hid (HKR.out.trans HR8.out.1)
            have HSK8 : Hid (∀ i, i ≤ k → ∃ g, Den τ8 g (setF L i)) := Lib.hid fun i hi => by obtain ⟨g, hg⟩ := HSK.out i hi; exact ⟨g, hg.to ht8 HSR.out.ok hs8.ok⟩
            clear hs8 ht8 hd8 HR8 HOR
            go_wp2
            exact ⟨⟨k + 1, by go_num, by omega, r8, τ8, rfl, HS8, HT8, HTT8, HD8, HK8, Lib.hid fun i hi => by
              rcases Nat.lt_or_ge k i with h1 | h1
              · obtain rfl : i = k + 1 := by omega
                exact ⟨r8, HD8.out⟩
              · exact HSK8.out i h1⟩, by simp only [intOf]; omega⟩
      · obtain rfl : k = L.length := by omega
        have hI : ¬ (L.length : Int) < (L.length : Int) := by omega
        have HFIN : Hid (SetC w B S km A Mo σ L (sumTo (rcst cd cl) L.length + sumTo cs L.length) (.returned (.tuple #[.int .i64 q, .int .i64 0])) wr) := Lib.hid ⟨HK0.out.trans (HK2.out.trans HKR.out), .inr ⟨q, τ, rfl, HSR.out, HTR.out, HDR.out, fun i hi => by
          obtain ⟨n, hn⟩ : ∃ n, ns[i]? = some n := ⟨_, List.getElem?_eq_getElem (by have := HNS.out; omega)⟩
          exact ⟨n, (HD2.out i n hn).to HTT.out HS2.out.ok HSR.out.ok⟩, fun i hi => by
          obtain ⟨g, hg⟩ := HLK2.out i hi
          exact ⟨g, hg.to HTT.out HS2.out.ok HSR.out.ok⟩, HSK.out⟩⟩
        go_wp2
        go_ret2
        exact HFIN.out
end
end Go.Proofs.YtbahehmfhjkgeaaGreat

/-
  What may be left out of a filter, turned about, denied for permitted: the functions (plain).
-/
namespace Go.Proofs.YtbahehmfhjkgeaaGreat
open Go Go.RowKit Go.ChangeMaps Go.MapKept Go.Maps Go.Lib Go.Sort

/-! How many nodes. -/
theorem hits_succ (L : List RuleV) (k : Nat) (s : Nat → Bool) : hits L (List.range (k + 1)) s = hits L (List.range k) s ++ if ruleAt L k s then [k] else [] := by
  unfold hits
  rw [List.range_succ, List.filter_append]
  congr 1
  cases h : ruleAt L k s <;> simp [h]
theorem left_w {L : List RuleV} (ok : ∀ (k : Nat) (r : RuleV), L[k]? = some r → RuleOk r) {k : Nat} (hk : k ≤ L.length) : WidB (leftF L k) (bW k) := by
  have h := hits_widB ok (List.range k) (fun i hi => by have := List.mem_range.1 hi; omega) fun l => l.isEmpty
  rw [List.length_range] at h
  rw [show leftF L k = fun s => (hits L (List.range k) s).isEmpty from funext fun s => hits_range L k s]
  exact h
theorem dec_w {L : List RuleV} (ok : ∀ (k : Nat) (r : RuleV), L[k]? = some r → RuleOk r) {k : Nat} (hk : k < L.length) : WidB (decF L k) (bW (k + 1)) := by
  have h := hits_widB ok (List.range (k + 1)) (fun i hi => by have := List.mem_range.1 hi; omega) fun l => l == [k]
  rw [List.length_range] at h
  rw [show decF L k = fun s => hits L (List.range (k + 1)) s == [k] from funext fun s => by
    unfold decF
    rw [hits_range, hits_succ]
    cases hh : hits L (List.range k) s with
    | nil => cases ruleAt L k s <;> simp
    | cons a r =>
      have ha : a < k := by
        have : a ∈ hits L (List.range k) s := by rw [hh]; exact List.mem_cons_self ..
        exact List.mem_range.1 (List.mem_filter.1 this).1
      have : ¬ a = k := by omega
      simp [this]]
  exact h
def headP (L : List RuleV) (l : List Nat) : Bool := match l with
  | i :: _ => permitAt L i
  | [] => false
theorem set_hits (L : List RuleV) (s : Nat → Bool) : ∀ k, setF L k s = headP L (hits L (List.range k) s)
  | 0 => rfl
  | k + 1 => by
    have ih := set_hits L s k
    rw [hits_succ]
    unfold setF
    cases hp : permitAt L k with
    | false =>
      rw [if_neg (by simp), ih]
      cases hh : hits L (List.range k) s with
      | nil => cases ruleAt L k s <;> simp [headP, hp]
      | cons a r => rfl
    | true =>
      rw [if_pos rfl]
      show (setF L k s || decF L k s) = _
      unfold decF
      rw [ih, hits_range]
      cases hh : hits L (List.range k) s with
      | nil => cases ruleAt L k s <;> simp [headP, hp]
      | cons a r => simp [headP]
theorem set_w {L : List RuleV} (ok : ∀ (k : Nat) (r : RuleV), L[k]? = some r → RuleOk r) {k : Nat} (hk : k ≤ L.length) : WidB (setF L k) (bW k) := by
  have h := hits_widB ok (List.range k) (fun i hi => by have := List.mem_range.1 hi; omega) (headP L)
  rw [List.length_range] at h
  rw [show setF L k = fun s => headP L (hits L (List.range k) s) from funext fun s => set_hits L s k]
  exact h
theorem two_w {L : List RuleV} (ok : ∀ (k : Nat) (r : RuleV), L[k]? = some r → RuleOk r) {i j : Nat} {x y : RuleV} (hx : L[i]? = some x) (hy : L[j]? = some y) : WidB (fun s => ruleF x s && ruleF y s) (bW 2) := by
  have h := hits_widB ok [i, j] (fun k hk => by
    simp only [List.mem_cons, List.not_mem_nil, or_false] at hk
    rcases hk with rfl | rfl
    · exact (List.getElem?_eq_some_iff.1 hx).1
    · exact (List.getElem?_eq_some_iff.1 hy).1) fun l => l.length == 2
  rw [show (fun s => ruleF x s && ruleF y s) = fun s => (hits L [i, j] s).length == 2 from funext fun s => by
    unfold hits
    have e1 := congrFun (ruleAt_eq hx) s
    have e2 := congrFun (ruleAt_eq hy) s
    cases h1 : ruleF x s <;> cases h2 : ruleF y s <;> rw [h1] at e1 <;> rw [h2] at e2 <;> simp [e1, e2]]
  exact h
/-! Lists that go on. -/
theorem left_app {A B : List RuleV} {j : Nat} (h : j ≤ A.length) : leftF (A ++ B) j = leftF A j := by
  unfold leftF
  rw [List.take_append_of_le_length h]
theorem dec_app {A B : List RuleV} {j : Nat} (h : j < A.length) : decF (A ++ B) j = decF A j := by
  unfold decF
  rw [left_app (by omega)]
  unfold ruleAt
  rw [List.getElem?_append_left h]
theorem set_app {A B : List RuleV} : ∀ {j : Nat}, j ≤ A.length → setF (A ++ B) j = setF A j
  | 0, _ => rfl
  | j + 1, h => by
    unfold setF
    rw [set_app (by omega), dec_app (by omega)]
    unfold permitAt
    rw [List.getElem?_append_left (by omega)]
theorem last_at (A : List RuleV) (r : RuleV) : (A ++ [r])[A.length]? = some r := by simp
theorem dec_last (A : List RuleV) (r : RuleV) : decF (A ++ [r]) A.length = fun s => leftF A A.length s && ruleF r s := by
  rw [decF_eq (last_at A r), left_app (Nat.le_refl _)]
theorem left_last (A : List RuleV) (r : RuleV) : leftF (A ++ [r]) (A.length + 1) = fun s => leftF A A.length s && !ruleF r s := by
  rw [leftF_succ (last_at A r), left_app (Nat.le_refl _)]
theorem set_last (A : List RuleV) (r : RuleV) : setF (A ++ [r]) (A.length + 1) = if r.permit then fun s => setF A A.length s || (leftF A A.length s && ruleF r s) else setF A A.length := by
  show (if permitAt (A ++ [r]) A.length then fun s => setF (A ++ [r]) A.length s || decF (A ++ [r]) A.length s else setF (A ++ [r]) A.length) = _
  rw [set_app (Nat.le_refl _), dec_last]
  unfold permitAt
  rw [last_at]
  rfl
theorem take_snocR {L : List RuleV} {k : Nat} {r : RuleV} (h : L[k]? = some r) : L.take (k + 1) = L.take k ++ [r] := by rw [List.take_add_one, h]; rfl
/-! What decides nothing may be left out. -/
/-- The rules of those places. -/
def keepR (D : Nat → Bool) (L : List RuleV) : Nat → List RuleV
  | 0 => []
  | k + 1 => keepR D L k ++ (if D k then (L[k]?).toList else [])
theorem keepR_yes {D : Nat → Bool} {L : List RuleV} {k : Nat} {x : RuleV} (h : L[k]? = some x) (hd : D k = true) : keepR D L (k + 1) = keepR D L k ++ [x] := by
  show keepR D L k ++ (if D k then _ else _) = _
  rw [hd, h]; rfl
theorem keepR_no {D : Nat → Bool} {L : List RuleV} {k : Nat} (hd : D k = false) : keepR D L (k + 1) = keepR D L k := by
  show keepR D L k ++ (if D k then _ else _) = _
  rw [hd]; simp
theorem keepR_len (D : Nat → Bool) (L : List RuleV) : ∀ k, (keepR D L k).length ≤ k
  | 0 => Nat.le_refl _
  | k + 1 => by
    have ih := keepR_len D L k
    show (keepR D L k ++ _).length ≤ _
    rw [List.length_append]
    have : (if D k then (L[k]?).toList else []).length ≤ 1 := by
      split
      · cases L[k]? <;> simp
      · simp
    omega
theorem keepR_mem {D : Nat → Bool} {L : List RuleV} {x : RuleV} : ∀ {k : Nat}, x ∈ keepR D L k → x ∈ L
  | 0, h => by simp [keepR] at h
  | k + 1, h => by
    rcases List.mem_append.1 (show x ∈ keepR D L k ++ (if D k then (L[k]?).toList else []) from h) with h | h
    · exact keepR_mem h
    · split at h
      · cases hk : L[k]? with
        | none => rw [hk] at h; simp at h
        | some y =>
          rw [hk] at h
          simp at h
          exact h ▸ List.mem_of_getElem? hk
      · simp at h
theorem dec_none {L : List RuleV} {k : Nat} {r : RuleV} (hr : L[k]? = some r) (h : decF L k = fun _ => false) : leftF L (k + 1) = leftF L k ∧ setF L (k + 1) = setF L k := by
  rw [decF_eq hr] at h
  refine ⟨?_, ?_⟩
  · rw [leftF_succ hr]
    funext s
    have := congrFun h s
    cases hl : leftF L k s <;> cases hf : ruleF r s <;> simp_all
  · show (if permitAt L k then fun s => setF L k s || decF L k s else setF L k) = setF L k
    rw [decF_eq hr, h]
    split
    · funext s; simp
    · rfl
/-- What is left out changes nothing; all that the others come to has been. -/
theorem keepR_ok {D : Nat → Bool} {L : List RuleV} (hD : ∀ k, k < L.length → D k = false → decF L k = fun _ => false) : ∀ k, k ≤ L.length →
    leftF (keepR D L k) (keepR D L k).length = leftF L k ∧ setF (keepR D L k) (keepR D L k).length = setF L k ∧
    ∀ j, j < (keepR D L k).length → ∃ i, i < k ∧ D i = true ∧ decF (keepR D L k) j = decF L i ∧ leftF (keepR D L k) (j + 1) = leftF L (i + 1) ∧ setF (keepR D L k) (j + 1) = setF L (i + 1)
  | 0, _ => ⟨rfl, rfl, fun j hj => by simp [keepR] at hj⟩
  | k + 1, hk => by
    obtain ⟨h1, h2, h3⟩ := keepR_ok hD k (by omega)
    obtain ⟨r, hr⟩ : ∃ r, L[k]? = some r := ⟨_, List.getElem?_eq_getElem hk⟩
    cases hd : D k with
    | false =>
      obtain ⟨e1, e2⟩ := dec_none hr (hD k hk hd)
      rw [keepR_no hd, e1, e2]
      exact ⟨h1, h2, fun j hj => by
        obtain ⟨i, a, b⟩ := h3 j hj
        exact ⟨i, by omega, b⟩⟩
    | true =>
      rw [keepR_yes hr hd]
      have hlen : (keepR D L k ++ [r]).length = (keepR D L k).length + 1 := by simp
      have e1 : leftF (keepR D L k ++ [r]) ((keepR D L k).length + 1) = leftF L (k + 1) := by rw [left_last, h1, leftF_succ hr]
      have e2 : setF (keepR D L k ++ [r]) ((keepR D L k).length + 1) = setF L (k + 1) := by
        rw [set_last, h1, h2]
        show _ = if permitAt L k then fun s => setF L k s || decF L k s else setF L k
        rw [decF_eq hr]
        unfold permitAt
        rw [hr]
        rfl
      have e3 : decF (keepR D L k ++ [r]) (keepR D L k).length = decF L k := by rw [dec_last, h1, decF_eq hr]
      rw [hlen]
      refine ⟨e1, e2, fun j hj => ?_⟩
      rcases Nat.lt_or_ge j (keepR D L k).length with h | h
      · obtain ⟨i, a, b, c1, c2, c3⟩ := h3 j h
        exact ⟨i, by omega, b, by rw [dec_app h, c1], by rw [left_app (by omega), c2], by rw [set_app (by omega), c3]⟩
      · obtain rfl : j = (keepR D L k).length := by omega
        exact ⟨k, Nat.lt_succ_self _, hd, e3, e1, e2⟩
/-! Denied for permitted. -/
def flipR (r : RuleV) : RuleV := ⟨!r.permit, r.proto, r.sa, r.sn, r.da, r.dn, r.sl, r.sh, r.dl, r.dh, r.hpr, r.hsa, r.hda, r.hsl, r.hsh, r.hdl, r.hdh⟩
def permR (r : RuleV) : RuleV := ⟨true, r.proto, r.sa, r.sn, r.da, r.dn, r.sl, r.sh, r.dl, r.dh, r.hpr, r.hsa, r.hda, r.hsl, r.hsh, r.hdl, r.hdh⟩
theorem askF_like {r q : RuleV} (h1 : r.proto = q.proto) (h2 : r.sa = q.sa) (h3 : r.sn = q.sn) (h4 : r.da = q.da) (h5 : r.dn = q.dn) (h6 : r.sl = q.sl) (h7 : r.sh = q.sh) (h8 : r.dl = q.dl) (h9 : r.dh = q.dh) : ∀ k, askF r k = askF q k
  | 0 => by
    show bitsF 0 0 r.sn.toNat (r.sa.toNat / 2 ^ (32 - r.sn.toNat)) r.sn.toNat = bitsF 0 0 q.sn.toNat (q.sa.toNat / 2 ^ (32 - q.sn.toNat)) q.sn.toNat
    rw [h2, h3]
  | 1 => by
    show bitsF 32 0 r.dn.toNat (r.da.toNat / 2 ^ (32 - r.dn.toNat)) r.dn.toNat = bitsF 32 0 q.dn.toNat (q.da.toNat / 2 ^ (32 - q.dn.toNat)) q.dn.toNat
    rw [h4, h5]
  | 2 => by
    show spanF 72 16 r.sl.toNat r.sh.toNat = spanF 72 16 q.sl.toNat q.sh.toNat
    rw [h6, h7]
  | 3 => by
    show spanF 88 16 r.dl.toNat r.dh.toNat = spanF 88 16 q.dl.toNat q.dh.toNat
    rw [h8, h9]
  | _ + 4 => by
    show spanF 64 8 r.proto.toNat r.proto.toNat = spanF 64 8 q.proto.toNat q.proto.toNat
    rw [h1]
theorem ruleF_like {r q : RuleV} (h1 : r.proto = q.proto) (h : ∀ k, askF r k = askF q k) : ruleF r = ruleF q := by
  have hk : ∀ k, ruleK r k = ruleK q k := fun k => by
    induction k with
    | zero => rfl
    | succ k ih =>
      show (fun s => ruleK r k s && askF r k s) = fun s => ruleK q k s && askF q k s
      rw [ih, h]
  unfold ruleF asksN
  rw [h1]
  exact hk _
theorem ruleF_flip (r : RuleV) : ruleF (flipR r) = ruleF r := ruleF_like rfl (askF_like rfl rfl rfl rfl rfl rfl rfl rfl rfl)
theorem ruleF_perm (r : RuleV) : ruleF (permR r) = ruleF r := ruleF_like rfl (askF_like rfl rfl rfl rfl rfl rfl rfl rfl rfl)
theorem left_flip (L : List RuleV) (k : Nat) : leftF (L.map flipR) k = leftF L k := funext fun s => by
  unfold leftF
  rw [← List.map_take, List.any_map]
  congr 2
  funext r
  exact congrFun (ruleF_flip r) s
theorem dec_flip (L : List RuleV) (k : Nat) : decF (L.map flipR) k = decF L k := funext fun s => by
  unfold decF ruleAt
  rw [left_flip, List.getElem?_map]
  cases L[k]? with
  | none => rfl
  | some r => exact congrArg (leftF L k s && ·) (congrFun (ruleF_flip r) s)
/-- Left, permitted or denied. -/
theorem set_flip (L : List RuleV) (s : Nat → Bool) : ∀ k, k ≤ L.length → (leftF L k s = true → setF L k s = false ∧ setF (L.map flipR) k s = false) ∧ (leftF L k s = false → setF (L.map flipR) k s = !setF L k s)
  | 0, _ => ⟨fun _ => ⟨rfl, rfl⟩, fun h => by simp [leftF] at h⟩
  | k + 1, hk => by
    obtain ⟨h1, h2⟩ := set_flip L s k (by omega)
    obtain ⟨r, hr⟩ : ∃ r, L[k]? = some r := ⟨_, List.getElem?_eq_getElem hk⟩
    have e0 : leftF L (k + 1) s = (leftF L k s && !ruleF r s) := congrFun (leftF_succ hr) s
    have ed : decF L k s = (leftF L k s && ruleF r s) := congrFun (decF_eq hr) s
    have e1 : setF L (k + 1) s = if r.permit then (setF L k s || decF L k s) else setF L k s := by
      show (if permitAt L k then fun s => setF L k s || decF L k s else setF L k) s = _
      unfold permitAt
      rw [hr]
      show (if r.permit then fun s => setF L k s || decF L k s else setF L k) s = _
      cases r.permit <;> rfl
    have e2 : setF (L.map flipR) (k + 1) s = if r.permit then setF (L.map flipR) k s else (setF (L.map flipR) k s || decF L k s) := by
      show (if permitAt (L.map flipR) k then fun s => setF (L.map flipR) k s || decF (L.map flipR) k s else setF (L.map flipR) k) s = _
      unfold permitAt
      rw [List.getElem?_map, hr, dec_flip]
      show (if !r.permit then fun s => setF (L.map flipR) k s || decF L k s else setF (L.map flipR) k) s = _
      cases r.permit <;> rfl
    rw [e0, e1, e2, ed]
    cases hl : leftF L k s with
    | true =>
      obtain ⟨a, b⟩ := h1 hl
      rw [a, b]
      cases ruleF r s <;> cases r.permit <;> simp
    | false =>
      have := h2 hl
      rw [this]
      cases ruleF r s <;> cases r.permit <;> simp
theorem openR_one {r : RuleV} (h : ruleF r = fun _ => true) (L : List RuleV) (hp : r.permit = true) : setF (L.map flipR ++ [r]) (L.length + 1) = fun s => !setF L L.length s := by
  have hl : (L.map flipR).length = L.length := List.length_map ..
  have e := set_last (L.map flipR) r
  rw [hl, hp, if_pos rfl, h] at e
  rw [e]
  funext s
  obtain ⟨h1, h2⟩ := set_flip L s L.length (Nat.le_refl _)
  rw [left_flip]
  cases hs : leftF L L.length s with
  | true =>
    obtain ⟨a, b⟩ := h1 hs
    rw [a, b]; rfl
  | false =>
    rw [h2 hs]; simp
end Go.Proofs.YtbahehmfhjkgeaaGreat

/-
  Two neighbours turned about that have no header in common; sums of costs (plain).
-/
namespace Go.Proofs.YtbahehmfhjkgeaaGreat
open Go Go.RowKit Go.ChangeMaps Go.MapKept Go.Maps Go.Lib Go.Sort

theorem left_two (A B : List RuleV) (x y : RuleV) : leftF (A ++ x :: y :: B) (A.length + 1) = (fun s => leftF A A.length s && !ruleF x s) ∧ leftF (A ++ x :: y :: B) (A.length + 2) = fun s => (leftF A A.length s && !ruleF x s) && !ruleF y s := by
  have h1 : (A ++ x :: y :: B)[A.length]? = some x := by simp
  have h2 : (A ++ x :: y :: B)[A.length + 1]? = some y := by
    rw [List.getElem?_append_right (by omega), show A.length + 1 - A.length = 1 by omega]; rfl
  have e1 := leftF_succ h1
  rw [left_app (Nat.le_refl _)] at e1
  have e2 := leftF_succ h2
  rw [e1] at e2
  exact ⟨e1, e2⟩
theorem dec_two (A B : List RuleV) (x y : RuleV) : decF (A ++ x :: y :: B) A.length = (fun s => leftF A A.length s && ruleF x s) ∧ decF (A ++ x :: y :: B) (A.length + 1) = fun s => (leftF A A.length s && !ruleF x s) && ruleF y s := by
  have h1 : (A ++ x :: y :: B)[A.length]? = some x := by simp
  have h2 : (A ++ x :: y :: B)[A.length + 1]? = some y := by
    rw [List.getElem?_append_right (by omega), show A.length + 1 - A.length = 1 by omega]; rfl
  have e1 := decF_eq h1
  rw [left_app (Nat.le_refl _)] at e1
  have e2 := decF_eq h2
  rw [(left_two A B x y).1] at e2
  exact ⟨e1, e2⟩
theorem set_two (A B : List RuleV) (x y : RuleV) (s : Nat → Bool) : setF (A ++ x :: y :: B) (A.length + 2) s = (if y.permit then (if x.permit then (setF A A.length s || (leftF A A.length s && ruleF x s)) else setF A A.length s) || ((leftF A A.length s && !ruleF x s) && ruleF y s) else (if x.permit then (setF A A.length s || (leftF A A.length s && ruleF x s)) else setF A A.length s)) := by
  have h1 : (A ++ x :: y :: B)[A.length]? = some x := by simp
  have h2 : (A ++ x :: y :: B)[A.length + 1]? = some y := by
    rw [List.getElem?_append_right (by omega), show A.length + 1 - A.length = 1 by omega]; rfl
  have p1 : permitAt (A ++ x :: y :: B) A.length = x.permit := by unfold permitAt; rw [h1]; rfl
  have p2 : permitAt (A ++ x :: y :: B) (A.length + 1) = y.permit := by unfold permitAt; rw [h2]; rfl
  obtain ⟨d1, d2⟩ := dec_two A B x y
  have e1 : setF (A ++ x :: y :: B) (A.length + 1) s = if x.permit then (setF A A.length s || (leftF A A.length s && ruleF x s)) else setF A A.length s := by
    show (if permitAt (A ++ x :: y :: B) A.length then fun s => setF (A ++ x :: y :: B) A.length s || decF (A ++ x :: y :: B) A.length s else setF (A ++ x :: y :: B) A.length) s = _
    rw [p1, d1, set_app (Nat.le_refl _)]
    cases x.permit <;> rfl
  show (if permitAt (A ++ x :: y :: B) (A.length + 1) then fun s => setF (A ++ x :: y :: B) (A.length + 1) s || decF (A ++ x :: y :: B) (A.length + 1) s else setF (A ++ x :: y :: B) (A.length + 1)) s = _
  rw [p2, d2, ← e1]
  cases y.permit <;> rfl
/-- Behind the two all is as it was. -/
theorem swap_tail {A B : List RuleV} {x y : RuleV} (h : ∀ s, (ruleF x s && ruleF y s) = false) : ∀ m, m ≤ B.length →
    leftF (A ++ y :: x :: B) (A.length + 2 + m) = leftF (A ++ x :: y :: B) (A.length + 2 + m) ∧ setF (A ++ y :: x :: B) (A.length + 2 + m) = setF (A ++ x :: y :: B) (A.length + 2 + m)
  | 0, _ => by
    refine ⟨?_, ?_⟩
    · rw [Nat.add_zero, (left_two A B y x).2, (left_two A B x y).2]
      funext s
      cases leftF A A.length s <;> cases ruleF x s <;> cases ruleF y s <;> rfl
    · rw [Nat.add_zero]
      funext s
      rw [set_two, set_two]
      have hs := h s
      cases hx : ruleF x s <;> cases hy : ruleF y s <;> rw [hx, hy] at hs <;> cases x.permit <;> cases y.permit <;> cases leftF A A.length s <;> cases setF A A.length s <;> first | rfl | cases hs
  | m + 1, hm => by
    obtain ⟨h1, h2⟩ := swap_tail (A := A) (B := B) h m (by omega)
    have hb : ∀ p q : RuleV, (A ++ p :: q :: B)[A.length + 2 + m]? = B[m]? := fun p q => by
      rw [List.getElem?_append_right (by omega), show A.length + 2 + m - A.length = m + 1 + 1 by omega]; rfl
    obtain ⟨r, hr⟩ : ∃ r, B[m]? = some r := ⟨_, List.getElem?_eq_getElem hm⟩
    have a1 := (hb y x).trans hr
    have a2 := (hb x y).trans hr
    have e1 : leftF (A ++ y :: x :: B) (A.length + 2 + m + 1) = leftF (A ++ x :: y :: B) (A.length + 2 + m + 1) := by rw [leftF_succ a1, leftF_succ a2, h1]
    refine ⟨e1, ?_⟩
    show (if permitAt (A ++ y :: x :: B) (A.length + 2 + m) then fun s => setF (A ++ y :: x :: B) (A.length + 2 + m) s || decF (A ++ y :: x :: B) (A.length + 2 + m) s else setF (A ++ y :: x :: B) (A.length + 2 + m)) = if permitAt (A ++ x :: y :: B) (A.length + 2 + m) then fun s => setF (A ++ x :: y :: B) (A.length + 2 + m) s || decF (A ++ x :: y :: B) (A.length + 2 + m) s else setF (A ++ x :: y :: B) (A.length + 2 + m)
    rw [decF_eq a1, decF_eq a2, h1, h2]
    unfold permitAt
    rw [a1, a2]
/-- All but the functions between the two are known. -/
theorem swap_known {A B : List RuleV} {x y : RuleV} (h : ∀ s, (ruleF x s && ruleF y s) = false) (j : Nat) (hj : j < A.length + 2 + B.length) :
    (∃ i, i < A.length + 2 + B.length ∧ decF (A ++ y :: x :: B) j = decF (A ++ x :: y :: B) i) ∧ (j = A.length ∨ leftF (A ++ y :: x :: B) (j + 1) = leftF (A ++ x :: y :: B) (j + 1) ∧ setF (A ++ y :: x :: B) (j + 1) = setF (A ++ x :: y :: B) (j + 1)) := by
  rcases Nat.lt_trichotomy j A.length with h1 | h1 | h1
  · refine ⟨⟨j, by omega, by rw [dec_app h1, dec_app h1]⟩, .inr ⟨by rw [left_app (by omega), left_app (by omega)], by rw [set_app (by omega), set_app (by omega)]⟩⟩
  · subst h1
    refine ⟨⟨A.length + 1, by omega, ?_⟩, .inl rfl⟩
    rw [(dec_two A B y x).1, (dec_two A B x y).2]
    funext s
    have hs := h s
    cases hx : ruleF x s <;> cases hy : ruleF y s <;> rw [hx, hy] at hs <;> cases leftF A A.length s <;> first | rfl | cases hs
  · obtain ⟨m, rfl⟩ : ∃ m, j = A.length + 1 + m := ⟨j - (A.length + 1), by omega⟩
    have ht := swap_tail (A := A) (B := B) h m (by omega)
    refine ⟨?_, .inr (by rw [show A.length + 1 + m + 1 = A.length + 2 + m by omega]; exact ht)⟩
    cases m with
    | zero =>
      refine ⟨A.length, by omega, ?_⟩
      rw [Nat.add_zero, (dec_two A B y x).2, (dec_two A B x y).1]
      funext s
      have hs := h s
      cases hx : ruleF x s <;> cases hy : ruleF y s <;> rw [hx, hy] at hs <;> cases leftF A A.length s <;> first | rfl | cases hs
    | succ m =>
      have ht2 := swap_tail (A := A) (B := B) h m (by omega)
      refine ⟨A.length + 1 + (m + 1), hj, ?_⟩
      have hb : ∀ p q : RuleV, (A ++ p :: q :: B)[A.length + 1 + (m + 1)]? = B[m]? := fun p q => by
        rw [List.getElem?_append_right (by omega), show A.length + 1 + (m + 1) - A.length = m + 1 + 1 by omega]; rfl
      obtain ⟨r, hr⟩ : ∃ r, B[m]? = some r := ⟨_, List.getElem?_eq_getElem (by omega)⟩
      rw [decF_eq ((hb y x).trans hr), decF_eq ((hb x y).trans hr), show A.length + 1 + (m + 1) = A.length + 2 + m by omega, ht2.1]
/-! Sums. -/
theorem sumTo_rz (n : Nat) : sumTo (rcst (fun _ => 0) (fun _ => 0)) n = n * 6760 := sumTo_const 6760 n
def bS (k : Nat) : Nat := bW (k + 1)
theorem cost_set {n : Nat} (h : n ≤ 12) : sumTo (rcst bS bS) n + sumTo bS n ≤ 1822968 := by
  have h1 := sumTo_up (rcst bS bS) h
  have h2 := sumTo_up bS h
  have h3 : sumTo (rcst bS bS) 12 + sumTo bS 12 = 1822968 := by decide +kernel
  omega
theorem cost_turn {n : Nat} (h : n ≤ 13) : sumTo bS n ≤ 848128 := by
  have h1 := sumTo_up bS h
  have h2 : sumTo bS 13 = 848128 := by decide +kernel
  omega
def atC (k c j : Nat) : Nat := if j = k then c else 0
theorem sumTo_at (k c : Nat) : ∀ n, sumTo (atC k c) n ≤ c
  | 0 => Nat.zero_le _
  | n + 1 => by
    have ih := sumTo_at k c n
    show sumTo (atC k c) n + (if n = k then c else 0) ≤ c
    by_cases h : n = k
    · subst h
      have : ∀ m, m ≤ n → sumTo (atC n c) m = 0 := fun m => by
        induction m with
        | zero => intro _; rfl
        | succ m ihm =>
          intro hm
          show sumTo (atC n c) m + (if m = n then c else 0) = 0
          rw [ihm (by omega), if_neg (by omega)]
      rw [this n (Nat.le_refl _), if_pos rfl]; omega
    · rw [if_neg h]; omega
theorem sumTo_rat (k c : Nat) : ∀ n, sumTo (rcst (fun _ => 0) (atC k c)) n ≤ n * 6760 + c := fun n => by
  have e : sumTo (rcst (fun _ => 0) (atC k c)) n = sumTo (fun _ => 6760) n + sumTo (atC k c) n := by
    rw [← sumTo_add]; rfl
  rw [e, sumTo_const]
  have := sumTo_at k c n
  omega
theorem bW_11 : bW 11 = 136784 := by decide +kernel
theorem bW_2 : bW 2 = 576 := by decide +kernel
end Go.Proofs.YtbahehmfhjkgeaaGreat

/-
  Rules without bounds; nobody's space.
-/
namespace Go.Proofs.YtbahehmfhjkgeaaGreat
open Go Go.RowKit Go.ChangeMaps Go.MapKept Go.Maps Go.Lib Go.Sort

theorem reachF_zero (a n : Nat) : ∀ m, reachF a n 0 true m = fun _ => true
  | 0 => rfl
  | m + 1 => by
    unfold reachF stepF
    rw [reachF_zero a n m]
    funext s
    simp
theorem reachF_top (a n k : Nat) : ∀ m, m ≤ k → reachF a n (2 ^ k - 1) false m = fun _ => true
  | 0, _ => rfl
  | m + 1, hm => by
    have hb : (2 ^ k - 1).testBit m = true := by rw [Nat.testBit_two_pow_sub_one]; simp; omega
    unfold reachF stepF
    rw [reachF_top a n k m (by omega), hb]
    funext s
    simp
theorem spanF_all (a n k : Nat) (h : n ≤ k) : spanF a n 0 (2 ^ k - 1) = fun _ => true := by
  unfold spanF
  rw [reachF_zero, reachF_top a n k n h]
  rfl
/-- The rule without bounds, of a protocol or of any. -/
def wideR (permit : Bool) (p : Int) (hp : -1 ≤ p ∧ p ≤ 255) : RuleV := ⟨permit, p, 0, 0, 0, 0, 0, 65535, 0, 65535, by omega, by omega, by omega, by omega, by omega, by omega, by omega⟩
theorem wide_ask (b : Bool) (p : Int) (hp : -1 ≤ p ∧ p ≤ 255) : ∀ k, k < 4 → askF (wideR b p hp) k = fun _ => true := by
  intro k hk
  obtain rfl | rfl | rfl | rfl : k = 0 ∨ k = 1 ∨ k = 2 ∨ k = 3 := by omega
  · rfl
  · rfl
  · exact spanF_all 72 16 16 (Nat.le_refl _)
  · exact spanF_all 88 16 16 (Nat.le_refl _)
theorem wide_ruleK (b : Bool) (p : Int) (hp : -1 ≤ p ∧ p ≤ 255) : ∀ k, k ≤ 4 → ruleK (wideR b p hp) k = fun _ => true
  | 0, _ => rfl
  | k + 1, hk => by
    unfold ruleK
    rw [wide_ruleK b p hp k (by omega), wide_ask b p hp k (by omega)]
    rfl
theorem wide_five (b : Bool) (p : Int) (hp : -1 ≤ p ∧ p ≤ 255) : ruleK (wideR b p hp) 5 = spanF 64 8 p.toNat p.toNat := by
  show (fun s => ruleK (wideR b p hp) 4 s && askF (wideR b p hp) 4 s) = _
  rw [wide_ruleK b p hp 4 (Nat.le_refl _)]
  rfl
theorem wide_ruleF (b : Bool) (p : Int) (hp : -1 ≤ p ∧ p ≤ 255) : ruleF (wideR b p hp) = if 0 ≤ p then spanF 64 8 p.toNat p.toNat else fun _ => true := by
  unfold ruleF asksN
  show ruleK _ (if 0 ≤ p then 5 else 4) = _
  split
  · exact wide_five b p hp
  · exact wide_ruleK b p hp 4 (Nat.le_refl _)
theorem Wid.const (b : Bool) : Wid (fun _ => b) 0 := (Wid.seg (a := 0) (b := 0) (k := 1) (Hangs.const b 0 0) (by omega) (fun v => CutLe.const b v)).mono (by omega)
theorem wide_may (b : Bool) (p : Int) (hp : -1 ≤ p ∧ p ≤ 255) : mayB (wideR b p hp) = true := by
  unfold mayB
  have h1 : chk 0 0 = 0 := by decide
  show (decide (-1 ≤ p) && decide (p ≤ 255) && decide (chk 0 0 = 0) && decide (chk 0 0 = 0) && portsB 0 65535 && portsB 0 65535) = true
  rw [h1]
  simp [portsB, hp.1, hp.2]
theorem RdF.none (A : Blks) (km : Nat) (w : World) (k : Nat) : RdF A km w k (.slice none 0 0) 0 [] := ⟨_, 0, rfl, Nat.le_refl _, by simp, fun h => absurd h (by omega)⟩
section
set_option maxRecDepth 100000
set_option maxHeartbeats 2000000
end
end Go.Proofs.YtbahehmfhjkgeaaGreat

/-
  A new space; what lies below a space's blocks stays; filter.Set at nobody's space; the rules of a closed law.
-/
namespace Go.Proofs.YtbahehmfhjkgeaaGreat
open Go Go.RowKit Go.ChangeMaps Go.MapKept Go.Maps Go.Lib Go.Sort

def newSg : Sg := ⟨N0, [], [0, 1], []⟩
theorem newSg_ok (Mo : Nat) : SgOk Mo newSg := by
  refine ⟨N0_wf, ⟨List.nodup_nil, fun i hi => absurd hi (by simp [newSg])⟩, fun i hi => absurd hi (by simp [newSg]), fun g hg => ?_, by simp [newSg], by simp [newSg], fun p hp => absurd hp (by simp [newSg]), Nat.zero_le _, by decide⟩
  have h2 : g = 0 ∨ g = 1 := by simpa [newSg] using hg
  rcases h2 with rfl | rfl
  · exact ⟨by decide, .inl (by omega), Hangs.const false 0 208⟩
  · exact ⟨by decide, .inl (by omega), Hangs.const true 0 208⟩
section
variable {w w' : World} {B S km : Nat} {A : Blks} {Mo : Nat} {σ : Sg}
theorem SpAt.newOk (h : SpAt w B S km A Mo N0 [] [0, 1] []) : SpOk w B S km A Mo newSg := ⟨h, newSg_ok Mo⟩
theorem SpOk.foreign_low (h : SpOk w B S km A Mo σ) {k : Nat} (hk : k < B) : Foreign A w k := by
  obtain ⟨nv, ha⟩ := h.sp.ar
  have hb : B ≤ A.a := ha.base A.a (by simp [Blks.list])
  have hl := lt_of_block ha.cells
  refine ⟨by omega, fun hm => by have := ha.base k hm; omega, fun v hv e => ?_⟩
  rw [ha.cell2] at hv
  injection hv with hv
  subst hv
  have := (ha.row.lt k e).1
  omega
theorem SpOk.low (h : SpOk w B S km A Mo σ) (hB : B ≤ km) (hk : KeptS A km w w') : Below B w w' :=
  ⟨hk.os, hk.tape, hk.output, hk.size, fun k hlt => (hk.same k (h.foreign_low hlt) (by omega)).1⟩
end
section
set_option maxRecDepth 100000
set_option maxHeartbeats 2000000
end
/-- The rule that permits all. -/
def openR : RuleV := wideR true (-1) (by omega)
theorem openR_F : ruleF openR = fun _ => true := by
  unfold openR
  rw [wide_ruleF]
  rfl
theorem openR_may : mayB openR = true := wide_may true (-1) (by omega)
end Go.Proofs.YtbahehmfhjkgeaaGreat

/-
  Walks over the filter's layer: Decides; the program's and the reference's (written by wip/gen/genfilt6.py).
-/
namespace Go.Proofs.YtbahehmfhjkgeaaGreat
open Go Go.RowKit Go.Sort

/-- Which rule decides. -/
def decN (L : List RuleV) (h : HeaderV) : Int := idxP (fun r => fitsB r h) L
/-- .. 0 of a filter that is refused. -/
def decR (L : List RuleV) (h : HeaderV) : Int := if filtE L = 0 then decN L h else 0
theorem decR_ok {L : List RuleV} (h : HeaderV) (h1 : filtE L = 0) : decR L h = decN L h := if_pos h1
theorem decR_no {L : List RuleV} (h : HeaderV) (h1 : ¬ filtE L = 0) : decR L h = 0 := if_neg h1

set_option maxHeartbeats 400000 in
theorem fitsClos_any (r : RuleV) (h : HeaderV) (B : Nat) (w : World) (hB : w.heap[B]? = some (.cells #[.int .u32 h.src, .int .u32 h.dst, .int .u8 h.proto, .int .u16 h.sp, .int .u16 h.dp] 82 (0, 0))) :
    Calls Tryz.prog 104 #[.agg #[.bool r.permit, .int .i64 r.proto, .int .u32 r.sa, .int .i64 r.sn, .int .u32 r.da, .int .i64 r.dn, .int .u32 r.sl, .int .u32 r.sh, .int .u32 r.dl, .int .u32 r.dh], .pointer (some ⟨B, 0, none⟩)] w fun e w' => e = .returned (.bool (fitsB r h)) ∧ Below w.heap.size w w' := by
  have hlt := lt_of_block hB
  have hne : B ≠ w.heap.size := Nat.ne_of_lt hlt
  have e0 : w.cell? ⟨B, 0, none⟩ = some (.int .u32 h.src) := cell_of_row w (B) 0 _ _ (0, 0) hB
  have e1 : w.cell? ⟨B, 1, none⟩ = some (.int .u32 h.dst) := cell_of_row w (B) 1 _ _ (0, 0) hB
  have e2 : w.cell? ⟨B, 2, none⟩ = some (.int .u8 h.proto) := cell_of_row w (B) 2 _ _ (0, 0) hB
  have e3 : w.cell? ⟨B, 3, none⟩ = some (.int .u16 h.sp) := cell_of_row w (B) 3 _ _ (0, 0) hB
  have e4 : w.cell? ⟨B, 4, none⟩ = some (.int .u16 h.dp) := cell_of_row w (B) 4 _ _ (0, 0) hB
  clear hB
  go_enter Tryz.func104, Tryz.ntmps104
  go_wp2_with fail
  refine (fits_any r h _).mono ?_
  rintro e w1 ⟨rfl, hb⟩
  have hbw := below_call (below1 w _) hb
  go_wp2
  go_ret
  exact ⟨rfl, hbw⟩
theorem fitsClos_pred (h : HeaderV) (B : Nat) (w : World) (hB : w.heap[B]? = some (.cells #[.int .u32 h.src, .int .u32 h.dst, .int .u8 h.proto, .int .u16 h.sp, .int .u16 h.dp] 82 (0, 0))) : PredBelow Tryz.prog 104 #[.pointer (some ⟨B, 0, none⟩)] (fun x : RuleV => .agg x.enc.toArray) (fun r => fitsB r h) w := fun W r hb =>
  (fitsClos_any r h B W (blk_below hb hB)).mono fun _ _ ⟨he, hb'⟩ => ⟨he, hb.trans (hb'.mono hb.size)⟩

set_option maxHeartbeats 1000000 in
theorem decides_any (nm : ByteArray) (L : List RuleV) (v : Value) (h : HeaderV) (w : World) (hr : Rd w w.heap.size 10 v L.length (rcells L)) :
    Calls Tryz.prog 45 #[.agg #[.string nm, v], .agg #[.int .u32 h.src, .int .u32 h.dst, .int .u8 h.proto, .int .u16 h.sp, .int .u16 h.dp]] w fun e w' => e = .returned (.tuple #[.int .i64 (decR L h), .int .i64 (filtE L)]) ∧ Below w.heap.size w w' := by
  have hW : Below w.heap.size w ((w.alloc (.cells #[.string nm, v] 24)).alloc (.cells #[.int .u32 h.src, .int .u32 h.dst, .int .u8 h.proto, .int .u16 h.sp, .int .u16 h.dp] 82)) := below2 w _ _
  have h' := (hr.below hW).mono hW.size
  obtain ⟨A, c, rfl, hc⟩ := hr.form
  have HR := Lib.hid h'
  clear hr h'
  by_cases h1 : filtE L = 0
  · have hd : (filtE L != 0) = false := by simp [h1]
    have H1 := Lib.hid h1
    have hE := Lib.hid (decR_ok h h1).symm
    have hlen : L.length ≤ 256 := by
      rcases Nat.lt_or_ge 256 L.length with h2 | h2
      · rw [filtE_1 h2] at h1; omega
      · exact h2
    clear h1
    go_enter Tryz.func45, Tryz.ntmps45
    go_wp2_with fail
    refine (filtCheck_any nm L _ _ HR.out).mono ?_
    rintro e w1 ⟨rfl, hb⟩
    have J0 := blk_below hb (blk2 w _ _).1
    have J1 := blk_below hb (blk2 w _ _).2
    have hbw := below_call hW hb
    have hcon := Lib.hid (indexRule_any L _ (fun r => fitsB r h) 104 #[.pointer (some ⟨w.heap.size + 1, 0, none⟩)] _ (enters_of Tryz.func104 (by kernel_rfl) rfl) (fitsClos_pred h _ _ J1) ((HR.out.below hb).mono hb.size) (by omega))
    obtain ⟨ca, cb, _, _⟩ := two_cells J0
    have l0 := lt_of_block J0
    clear hb J0 J1 hW HR
    have hdec : Hid (idxP (fun r => fitsB r h) L = decN L h) := rfl
    generalize idxP (fun r => fitsB r h) L = D at *
    go_wp2_with fail
    refine hcon.out.mono ?_
    rintro e w2 ⟨rfl, hb2⟩
    have hbw2 := below_call hbw hb2
    go_wp2
    go_ret2
    exact ⟨rt2 ⟨vi (by rw [hdec.out]; exact hE.out), vi H1.out.symm⟩, hbw2⟩
  · have hd : (filtE L != 0) = true := by simp [h1]
    have hE := Lib.hid (decR_no h h1).symm
    clear h1
    go_enter Tryz.func45, Tryz.ntmps45
    go_wp2_with fail
    refine (filtCheck_any nm L _ _ HR.out).mono ?_
    rintro e w1 ⟨rfl, hb⟩
    have hbw := below_call hW hb
    go_wp2
    go_ret2
    exact ⟨rt2 ⟨vi hE.out, rfl⟩, hbw⟩

end Go.Proofs.YtbahehmfhjkgeaaGreat

/-
  Walks over the filter's layer: Permits, the rules held against each other, the law's own probe (written by wip/gen/genfilt7.py).
-/
namespace Go.Proofs.YtbahehmfhjkgeaaGreat
open Go Go.RowKit Go.Sort

/-- What rule i says; false of none. -/
def permAt (L : List RuleV) (i : Int) : Bool := if 0 ≤ i then (L[i.toNat]?.map (·.permit)).getD false else false
def permN (L : List RuleV) (h : HeaderV) : Bool := permAt L (decN L h)
def permB (L : List RuleV) (h : HeaderV) : Bool := if filtE L = 0 then permN L h else false
theorem permB_ok {L : List RuleV} (h : HeaderV) (h1 : filtE L = 0) : permB L h = permN L h := if_pos h1
theorem permB_no {L : List RuleV} (h : HeaderV) (h1 : ¬ filtE L = 0) : permB L h = false := if_neg h1
theorem permN_miss {L : List RuleV} {h : HeaderV} (h2 : decN L h = -1) : permN L h = false := by unfold permN permAt; rw [h2, if_neg (by omega)]
theorem permN_hit {L : List RuleV} {h : HeaderV} {k : Nat} {r : RuleV} (h2 : decN L h = k) (h3 : L[k]? = some r) : permN L h = r.permit := by
  unfold permN permAt
  rw [h2, if_pos (by omega), Int.toNat_natCast, h3]; rfl

set_option maxHeartbeats 1000000 in
theorem permits_any (nm : ByteArray) (L : List RuleV) (v : Value) (h : HeaderV) (w : World) (hr : Rd w w.heap.size 10 v L.length (rcells L)) :
    Calls Tryz.prog 44 #[.agg #[.string nm, v], .agg #[.int .u32 h.src, .int .u32 h.dst, .int .u8 h.proto, .int .u16 h.sp, .int .u16 h.dp]] w fun e w' => e = .returned (.tuple #[.bool (permB L h), .int .i64 (filtE L)]) ∧ Below w.heap.size w w' := by
  have hW : Below w.heap.size w ((w.alloc (.cells #[.string nm, v] 24)).alloc (.cells #[.int .u32 h.src, .int .u32 h.dst, .int .u8 h.proto, .int .u16 h.sp, .int .u16 h.dp] 82)) := below2 w _ _
  have h' := (hr.below hW).mono hW.size
  have hcon := decides_any nm L v h _ h'
  by_cases h1 : filtE L = 0
  · rw [decR_ok h h1, h1] at hcon
    rw [permB_ok h h1, h1]
    rcases idxP_cases (fun r => fitsB r h) L with ⟨hD, _⟩ | ⟨k, r, hD, hk, _, _⟩
    · have hD' : decN L h = -1 := hD
      rw [hD'] at hcon
      rw [permN_miss hD']
      obtain ⟨A, c, rfl, hc⟩ := hr.form
      have hcon := Lib.hid hcon
      clear hr h' h1 hD hD'
      go_enter Tryz.func44, Tryz.ntmps44
      go_wp2_with fail
      refine hcon.out.mono ?_
      rintro e w1 ⟨rfl, hb⟩
      have hbw := below_call hW hb
      go_wp2
      go_ret2
      exact ⟨rfl, hbw⟩
    · have hD' : decN L h = k := hD
      have hlt := (List.getElem?_eq_some_iff.1 hk).1
      rw [hD'] at hcon
      rw [permN_hit hD' hk]
      obtain ⟨b, off, c, rfl, hc, hbB, hcell⟩ := hr.posAt (by omega)
      have e0 := hW.cell (p := ⟨b, off + k * 10 + 0, none⟩) hbB
      rw [hcell k 0 _ (rcell hk (v := .bool r.permit) rfl)] at e0
      have hbl : b < ((w.alloc (.cells #[.string nm, .slice (some ⟨b, off, none⟩) L.length c] 24)).alloc (.cells #[.int .u32 h.src, .int .u32 h.dst, .int .u8 h.proto, .int .u16 h.sp, .int .u16 h.dp] 82)).heap.size := by have := hW.size; omega
      have hkl : (k : Int) < (L.length : Int) := by omega
      have E0 := Lib.hid e0
      have HBL := Lib.hid hbl
      have hcon := Lib.hid hcon
      clear hr h' h1 hD hD' hcell e0 hbl hk
      go_enter Tryz.func44, Tryz.ntmps44
      go_wp2_with fail
      refine hcon.out.mono ?_
      rintro e w1 ⟨rfl, hb⟩
      have hbw := below_call hW hb
      have J0 := blk_below hb (blk2 w _ _).1
      obtain ⟨ca, cb, _, _⟩ := two_cells J0
      have c0 : w1.cell? ⟨b, off + k * 10, none⟩ = some (.bool r.permit) := (hb.cell (p := ⟨b, off + k * 10, none⟩) HBL.out).trans E0.out
      go_wp2
      go_ret2
      exact ⟨rfl, hbw⟩
  · have hd : (filtE L == 0) = false := by simp [h1]
    rw [decR_no h h1] at hcon
    rw [permB_no h h1]
    obtain ⟨A, c, rfl, hc⟩ := hr.form
    have hcon := Lib.hid hcon
    clear hr h' h1
    go_enter Tryz.func44, Tryz.ntmps44
    go_wp2_with fail
    refine hcon.out.mono ?_
    rintro e w1 ⟨rfl, hb⟩
    have hbw := below_call hW hb
    go_wp2
    go_ret2
    exact ⟨rfl, hbw⟩

theorem eqPref (a n : Int) (d : Nat) (w : World) : (Op.equalIn (d + 1 + 1) 39 (.agg #[.int .u32 a, .int .i64 n]) (.agg #[.int .u32 a, .int .i64 n])).run Tryz.prog w = .ok true w := by
  have hS : Tryz.prog.underlying 39 = some (.struct (Tryz.prog.fieldsOf 39)) := by kernel_rfl
  have hp : Tryz.prog.stoodInHeld 39 = false := by kernel_rfl
  have a1 := Tryz.underlying37
  have a2 := Tryz.isAgg37
  have a3 := Tryz.sizeOf37
  have b1 := Tryz.underlying3
  have b2 := Tryz.isAgg3
  have b3 := Tryz.sizeOf3
  rw [run_equalIn_agg w (d + 1) 39 _ _ hS hp]
  simp only [Program.fieldsOf, Tryz.underlying39]
  go_simp
theorem eqSpan (a n : Int) (d : Nat) (w : World) : (Op.equalIn (d + 1 + 1) 41 (.agg #[.int .u32 a, .int .u32 n]) (.agg #[.int .u32 a, .int .u32 n])).run Tryz.prog w = .ok true w := by
  have hS : Tryz.prog.underlying 41 = some (.struct (Tryz.prog.fieldsOf 41)) := by kernel_rfl
  have hp : Tryz.prog.stoodInHeld 41 = false := by kernel_rfl
  have a1 := Tryz.underlying36
  have a2 := Tryz.isAgg36
  have a3 := Tryz.sizeOf36
  rw [run_equalIn_agg w (d + 1) 41 _ _ hS hp]
  simp only [Program.fieldsOf, Tryz.underlying41]
  go_simp
/-- '!=' says false of a rule and itself. -/
@[go_sem] theorem neqRule (r : RuleV) (w : World) : (binOp .neq 43 (.agg #[.bool r.permit, .int .i64 r.proto, .int .u32 r.sa, .int .i64 r.sn, .int .u32 r.da, .int .i64 r.dn, .int .u32 r.sl, .int .u32 r.sh, .int .u32 r.dl, .int .u32 r.dh]) (.agg #[.bool r.permit, .int .i64 r.proto, .int .u32 r.sa, .int .i64 r.sn, .int .u32 r.da, .int .i64 r.dn, .int .u32 r.sl, .int .u32 r.sh, .int .u32 r.dl, .int .u32 r.dh])).run Tryz.prog w = .ok (.bool false) w := by
  have hS : Tryz.prog.underlying 43 = some (.struct (Tryz.prog.fieldsOf 43)) := by kernel_rfl
  have hp : Tryz.prog.stoodInHeld 43 = false := by kernel_rfl
  have b1 := Tryz.underlying3
  have b2 := Tryz.isAgg3
  have b3 := Tryz.sizeOf3
  have c1 := Tryz.underlying4
  have c2 := Tryz.isAgg4
  have c3 := Tryz.sizeOf4
  have d2 := Tryz.isAgg39
  have d3 := Tryz.sizeOf39
  have e2 := Tryz.isAgg41
  have e3 := Tryz.sizeOf41
  rw [run_neq_struct, show (10000 : Nat) = 9997 + 1 + 1 + 1 from rfl, run_equalIn_agg w (9997 + 1 + 1) 43 _ _ hS hp]
  generalize 9997 = d
  have E1 := fun a n w => eqPref a n d w
  have E2 := fun a n w => eqSpan a n d w
  simp only [Program.fieldsOf, Tryz.underlying43]
  go_simp

end Go.Proofs.YtbahehmfhjkgeaaGreat
