/-
  Joined texts: Fr2, Fr3, Fr4, Fr5, Fr6, Fr7, Fr8, Ln1, Ln2, Wb1, Wb2.
-/
import Derived.Test.YtbahehmfhjkgeaaGreatMLintRules9
import Derived.Deep.DeepCutAuto
import Derived.Test.YtbahehmfhjkgeaaGreatMLintRules6
/-
  A rule's set (written by wip/gen/genfr2.py).
-/
namespace Go.Proofs.YtbahehmfhjkgeaaGreat
open Go Go.RowKit Go.ChangeMaps Go.MapKept Go.Maps Go.Lib Go.Sort

/-- The first k of a rule's asks. -/
def ruleK (r : RuleV) : Nat → Fun
  | 0 => fun _ => true
  | k + 1 => fun s => ruleK r k s && askF r k s
def asksN (r : RuleV) : Nat := if 0 ≤ r.proto then 5 else 4
def ruleF (r : RuleV) : Fun := ruleK r (asksN r)
theorem SetF.lit {F : Fun} {x : Nat} (hx : x % 2 = 0) (b : Bool) (h : SetF F) : SetF (litF x b F) := fun v hv s c => by
  unfold litF
  rw [put_other (by omega), h v hv]
theorem SetF.step {F : Fun} {x : Nat} (hx : x % 2 = 0) (up b : Bool) (h : SetF F) : SetF (stepF x up b F) := fun v hv s c => by
  unfold stepF
  rw [put_other (by omega), h v hv]
theorem SetF.const (b : Bool) : SetF (fun _ => b) := fun v _ => Free.const b v
theorem SetF.op2 {F G : Fun} (o : Bool → Bool → Bool) (a : SetF F) (b : SetF G) : SetF (fun s => o (F s) (G s)) := fun v hv => (a v hv).op2 o (b v hv)
theorem SetF.op1 {F : Fun} (o : Bool → Bool) (a : SetF F) : SetF (fun s => o (F s)) := fun v hv => (a v hv).op1 o
theorem bitsF_set (a n v : Nat) : ∀ m, SetF (bitsF a 0 n v m)
  | 0 => SetF.const true
  | m + 1 => SetF.lit (by omega) _ (bitsF_set a n v m)
theorem reachF_set (a n v : Nat) (up : Bool) : ∀ m, SetF (reachF a n v up m)
  | 0 => SetF.const true
  | m + 1 => SetF.step (by omega) _ _ (reachF_set a n v up m)
theorem spanF_set (a n lo hi : Nat) : SetF (spanF a n lo hi) := (reachF_set a n lo true n).op2 (fun x y => x && y) (reachF_set a n hi false n)
theorem askF_set (r : RuleV) : ∀ k, SetF (askF r k)
  | 0 => bitsF_set _ _ _ _
  | 1 => bitsF_set _ _ _ _
  | 2 => spanF_set _ _ _ _
  | 3 => spanF_set _ _ _ _
  | _ + 4 => spanF_set _ _ _ _
theorem ruleK_set (r : RuleV) : ∀ k, SetF (ruleK r k)
  | 0 => SetF.const true
  | k + 1 => (ruleK_set r k).op2 (fun x y => x && y) (askF_set r k)
theorem Tryz.infoFn0 : (Tryz.prog.info? 95).map (fun i => (i.zero, i.size, i.bytes)) = some (some .nilFunc, 1, 8) := by kernel_rfl
def askV (sb rb : Nat) : Nat → Value
  | 0 => .func (.func 108) #[] #[.pointer (some ⟨sb, 0, none⟩), .pointer (some ⟨rb, 0, none⟩)]
  | 1 => .func (.func 109) #[] #[.pointer (some ⟨sb, 0, none⟩), .pointer (some ⟨rb, 0, none⟩)]
  | 2 => .func (.func 110) #[] #[.pointer (some ⟨sb, 0, none⟩), .pointer (some ⟨rb, 0, none⟩)]
  | 3 => .func (.func 111) #[] #[.pointer (some ⟨sb, 0, none⟩), .pointer (some ⟨rb, 0, none⟩)]
  | _ => .func (.func 112) #[] #[.pointer (some ⟨sb, 0, none⟩), .pointer (some ⟨rb, 0, none⟩)]
section
variable {w : World} {B S km : Nat} {A : Blks} {Mo : Nat} {σ : Sg}
set_option maxRecDepth 100000
set_option maxHeartbeats 4000000
/-- An ask, whichever it is. -/
theorem ask_yes (r : RuleV) (ok : RuleOk r) (sb rb k : Nat) (hk : k < asksN r) : ∃ fid, askV sb rb k = .func (.func fid) #[] #[.pointer (some ⟨sb, 0, none⟩), .pointer (some ⟨rb, 0, none⟩)] ∧ (∀ (args : Array Value) (w : World), (callFunc fid args).run Tryz.prog w = .ok (.enter fid args) w) ∧
    ∀ (w : World) (τ : Sg), SpOk w B S km A Mo τ → AskBox w S sb rb r → τ.N.length + 1216 ≤ 2147483647 → Calls Tryz.prog fid #[.pointer (some ⟨sb, 0, none⟩), .pointer (some ⟨rb, 0, none⟩)] w (SpRes w B S km A Mo τ (askF r k) 1216 1216) := by
  have h5 : asksN r ≤ 5 := by unfold asksN; split <;> omega
  obtain rfl | rfl | rfl | rfl | rfl : k = 0 ∨ k = 1 ∨ k = 2 ∨ k = 3 ∨ k = 4 := by omega
  · exact ⟨_, rfl, fun _ _ => by go_simp, fun w τ h hb hl => ask0_yes h r ok sb rb hb hl⟩
  · exact ⟨_, rfl, fun _ _ => by go_simp, fun w τ h hb hl => ask1_yes h r ok sb rb hb hl⟩
  · exact ⟨_, rfl, fun _ _ => by go_simp, fun w τ h hb hl => ask2_yes h r ok sb rb hb hl⟩
  · exact ⟨_, rfl, fun _ _ => by go_simp, fun w τ h hb hl => ask3_yes h r ok sb rb hb hl⟩
  · have hp : 0 ≤ r.proto := by unfold asksN at hk; split at hk <;> omega
    exact ⟨_, rfl, fun _ _ => by go_simp, fun w τ h hb hl => ask4_yes h r ok hp sb rb hb hl⟩
theorem rule_yes (h : SpOk w B S km A Mo σ) (r : RuleV) (ok : RuleOk r) (K : Nat) (hK : ∀ k, k ≤ 5 → Wid (ruleK r k) K) (hl : σ.N.length + 5 * (1216 + K) ≤ 2147483647) :
    Calls Tryz.prog 51 #[.pointer (some ⟨S, 0, none⟩), .agg #[.bool r.permit, .int .i64 r.proto, .int .u32 r.sa, .int .i64 r.sn, .int .u32 r.da, .int .i64 r.dn, .int .u32 r.sl, .int .u32 r.sh, .int .u32 r.dl, .int .u32 r.dh]] w
      (SpRes w B S km A Mo σ (ruleF r) (5 * (1216 + K)) (5 * (1216 + K))) := by
  obtain ⟨i0, hif, hz0, hz1, hz2⟩ := info_parts Tryz.infoFn0
  have hW : (w.alloc (.cells #[.pointer (some ⟨S, 0, none⟩)] 26)).alloc (.cells #[.bool r.permit, .int .i64 r.proto, .int .u32 r.sa, .int .i64 r.sn, .int .u32 r.da, .int .i64 r.dn, .int .u32 r.sl, .int .u32 r.sh, .int .u32 r.dl, .int .u32 r.dh] 43) = (w.alloc (.cells #[.pointer (some ⟨S, 0, none⟩)] 26)).alloc (.cells #[.bool r.permit, .int .i64 r.proto, .int .u32 r.sa, .int .i64 r.sn, .int .u32 r.da, .int .i64 r.dn, .int .u32 r.sl, .int .u32 r.sh, .int .u32 r.dl, .int .u32 r.dh] 43) := rfl
  have hbw := below2 w (.cells #[.pointer (some ⟨S, 0, none⟩)] 26) (.cells #[.bool r.permit, .int .i64 r.proto, .int .u32 r.sa, .int .i64 r.sn, .int .u32 r.da, .int .i64 r.dn, .int .u32 r.sl, .int .u32 r.sh, .int .u32 r.dl, .int .u32 r.dh] 43)
  have hs1 : (w.alloc (.cells #[.pointer (some ⟨S, 0, none⟩)] 26)).heap.size = w.heap.size + 1 := by simp
  have hks := blk_below (below1 (w.alloc (.cells #[.pointer (some ⟨S, 0, none⟩)] 26)) (.cells #[.bool r.permit, .int .i64 r.proto, .int .u32 r.sa, .int .i64 r.sn, .int .u32 r.da, .int .i64 r.dn, .int .u32 r.sl, .int .u32 r.sh, .int .u32 r.dl, .int .u32 r.dh] 43)) (blk1 w (.cells #[.pointer (some ⟨S, 0, none⟩)] 26))
  have hkr := blk1 (w.alloc (.cells #[.pointer (some ⟨S, 0, none⟩)] 26)) (.cells #[.bool r.permit, .int .i64 r.proto, .int .u32 r.sa, .int .i64 r.sn, .int .u32 r.da, .int .i64 r.dn, .int .u32 r.sl, .int .u32 r.sh, .int .u32 r.dl, .int .u32 r.dh] 43)
  rw [hs1] at hkr
  have HSZ : Hid (((w.alloc (.cells #[.pointer (some ⟨S, 0, none⟩)] 26)).alloc (.cells #[.bool r.permit, .int .i64 r.proto, .int .u32 r.sa, .int .i64 r.sn, .int .u32 r.da, .int .i64 r.dn, .int .u32 r.sl, .int .u32 r.sh, .int .u32 r.dl, .int .u32 r.dh] 43)).heap.size = w.heap.size + 1 + 1) := Lib.hid (by simp)
  have HAB := Lib.hid (show AskBox _ S w.heap.size (w.heap.size + 1) r from ⟨hks, hkr⟩)
  have HF1 := Lib.hid (h.sp.ar.foreign_new hbw (Nat.le_refl _) (lt_of_block hks))
  have HF2 := Lib.hid (h.sp.ar.foreign_new hbw (show w.heap.size ≤ w.heap.size + 1 by omega) (lt_of_block hkr))
  have HNE : Hid (w.heap.size ≠ km ∧ w.heap.size + 1 ≠ km) := Lib.hid (by have := h.sp.fk.1; omega)
  have HS := Lib.hid (h.below hbw)
  have HK := Lib.hid (h.kept hbw)
  have HWK := Lib.hid hK
  have HOK := Lib.hid ok
  have c1 : ((w.alloc (.cells #[.pointer (some ⟨S, 0, none⟩)] 26)).alloc (.cells #[.bool r.permit, .int .i64 r.proto, .int .u32 r.sa, .int .i64 r.sn, .int .u32 r.da, .int .i64 r.dn, .int .u32 r.sl, .int .u32 r.sh, .int .u32 r.dl, .int .u32 r.dh] 43)).cell? ⟨w.heap.size + 1, 1, none⟩ = some (.int .i64 r.proto) := cell_of_row _ _ 1 _ _ (0, 0) hkr
  clear h hbw hks hkr hs1 hK ok hW
  go_enter Tryz.func51, Tryz.ntmps51
  go_upto_region 1 with fail
  generalize (w.alloc (.cells #[.pointer (some ⟨S, 0, none⟩)] 26)).alloc (.cells #[.bool r.permit, .int .i64 r.proto, .int .u32 r.sa, .int .i64 r.sn, .int .u32 r.da, .int .i64 r.dn, .int .u32 r.sl, .int .u32 r.sh, .int .u32 r.dl, .int .u32 r.dh] 43) = w0 at *
  have HROW := Lib.hid (show (w0.alloc (.cells #[askV w.heap.size (w.heap.size + 1) 0, askV w.heap.size (w.heap.size + 1) 1, askV w.heap.size (w.heap.size + 1) 2, askV w.heap.size (w.heap.size + 1) 3] 95)).ownsRow w0.heap.size 95 1 (.slice (some ⟨w0.heap.size, 0, none⟩) 4 4) 4 [askV w.heap.size (w.heap.size + 1) 0, askV w.heap.size (w.heap.size + 1) 1, askV w.heap.size (w.heap.size + 1) 2, askV w.heap.size (w.heap.size + 1) 3] from
    World.ownsRow_lit w0 #[askV w.heap.size (w.heap.size + 1) 0, askV w.heap.size (w.heap.size + 1) 1, askV w.heap.size (w.heap.size + 1) 2, askV w.heap.size (w.heap.size + 1) 3] 4 (Nat.le_refl _) (by unfold maxLen; omega) rfl)
  have HB1 := Lib.hid (below1 w0 (.cells #[askV w.heap.size (w.heap.size + 1) 0, askV w.heap.size (w.heap.size + 1) 1, askV w.heap.size (w.heap.size + 1) 2, askV w.heap.size (w.heap.size + 1) 3] 95))
  have hWV : w0.alloc (.cells #[.func (.func 108) #[] #[.pointer (some ⟨w.heap.size, 0, none⟩), .pointer (some ⟨w.heap.size + 1, 0, none⟩)], .func (.func 109) #[] #[.pointer (some ⟨w.heap.size, 0, none⟩), .pointer (some ⟨w.heap.size + 1, 0, none⟩)], .func (.func 110) #[] #[.pointer (some ⟨w.heap.size, 0, none⟩), .pointer (some ⟨w.heap.size + 1, 0, none⟩)], .func (.func 111) #[] #[.pointer (some ⟨w.heap.size, 0, none⟩), .pointer (some ⟨w.heap.size + 1, 0, none⟩)]] 95) = w0.alloc (.cells #[askV w.heap.size (w.heap.size + 1) 0, askV w.heap.size (w.heap.size + 1) 1, askV w.heap.size (w.heap.size + 1) 2, askV w.heap.size (w.heap.size + 1) 3] 95) := rfl
  go_upto_region 2 with fail
  clear hWV
  generalize w0.alloc (.cells #[askV w.heap.size (w.heap.size + 1) 0, askV w.heap.size (w.heap.size + 1) 1, askV w.heap.size (w.heap.size + 1) 2, askV w.heap.size (w.heap.size + 1) 3] 95) = w1 at *
  have d1 : w1.cell? ⟨w.heap.size + 1, 1, none⟩ = some (.int .i64 r.proto) := cell_of_row _ _ 1 _ _ (0, 0) (blk_below HB1.out HAB.out.r)
  clear c1
  by_cases hp : 0 ≤ r.proto
  · have hpi : r.proto ≥ 0 := hp
    have hne : asksN r = 5 := if_pos hp
    have HN := Lib.hid hne
    have hbs := HB1.out.size
    clear hp hne
    go_upto_region 4 with (at_builtin; refine wpList_push2 (v := .slice (some ⟨w0.heap.size, 0, none⟩) 4 4) rfl _ _ 196 rfl 95 i0 _ 1 8 Tryz.underlying196 hif hz0 hz1 hz2 rfl (by decide) (by decide) [askV w.heap.size (w.heap.size + 1) 4] rfl rfl rfl HROW.out rfl (by intro u hu; simp at hu; subst hu; rfl) (by omega) hbs ?_; intro v2 w2 hown2 hg2 hmv2; obtain ⟨A2, c2, hv2, hA2⟩ := owns_form hown2; subst hv2; have HO2 := Lib.hid hown2; have HA2 := Lib.hid hA2; have HB2 := Lib.hid (below_grown HB1.out hbs hg2 (fun g hg => by have : some w0.heap.size = some g := hg; injection this; omega)); clear hown2 hg2 hmv2 hA2)
    clear HROW hbs
    have HS2 := Lib.hid (HS.out.below HB2.out)
    have HK2 := Lib.hid (HK.out.trans (HS.out.kept HB2.out))
    have HAB2 := Lib.hid (show AskBox w2 S w.heap.size (w.heap.size + 1) r from ⟨blk_below HB2.out HAB.out.s, blk_below HB2.out HAB.out.r⟩)
    have HG2 := Lib.hid (And.intro (((HS.out.kept HB2.out).same _ HF1.out HNE.out.1).2) (((HS.out.kept HB2.out).same _ HF2.out HNE.out.2).2))
    have HBOX : Hid (∀ W, KeptS A km w2 W → AskBox W S w.heap.size (w.heap.size + 1) r) := Lib.hid fun W hW => ⟨(hW.same _ HG2.out.1 HNE.out.1).1.trans HAB2.out.s, (hW.same _ HG2.out.2 HNE.out.2).1.trans HAB2.out.r⟩
    have HCELL : Hid (∀ k, k < 5 → ∃ g, A2 = some ⟨g, 0, none⟩ ∧ ∀ W, KeptS A km w2 W → W.cell? ⟨g, k, none⟩ = some (askV w.heap.size (w.heap.size + 1) k)) := Lib.hid fun k hk => by
      obtain ⟨g, hg⟩ := HA2.out (by omega)
      have hlg := HO2.out.lt g (by rw [hg]; rfl)
      have hgf := HS.out.sp.ar.foreign_new HB2.out hlg.1 hlg.2
      have hgk : g ≠ km := by have := HS.out.sp.fk.1; omega
      refine ⟨g, hg, fun W hW => (World.cell?_of_block (hW.same _ hgf hgk).1).trans ?_⟩
      have ho := HO2.out
      rw [hg] at ho
      refine (ho.cellAt k (by omega)).trans ?_
      obtain rfl | rfl | rfl | rfl | rfl : k = 0 ∨ k = 1 ∨ k = 2 ∨ k = 3 ∨ k = 4 := by omega
      all_goals rfl
    clear HO2 HB2 HA2 HAB HF1 HF2 HSZ HAB2 HG2 HNE HS HK
    go_wp2
    go_loopw [7, 26] (fun f i wr => ∃ k : Nat, i = .int .i64 k ∧ k ≤ 5 ∧ ∃ (q : Nat) (τ : Sg), f = .int .i64 q ∧ Hid (SpOk wr B S km A Mo τ) ∧ Hid (To (k * (1216 + K)) (k * (1216 + K)) σ τ) ∧ Hid (Den τ q (ruleK r k)) ∧ Hid (KeptS A km w2 wr)) (fun _ i _ => 5 - (intOf i).toNat)
    case atStart => exact ⟨0, rfl, by omega, 1, σ, rfl, HS2, Lib.hid (by rw [Nat.zero_mul]; exact To.refl σ), Lib.hid (Den.one HS2.out.ok), Lib.hid (KeptS.refl _ _ _)⟩
    case round =>
      obtain ⟨k, rfl, hk, q, τ, rfl, HSR, HTR, HDR, HKR⟩ := hrel
      by_cases hlt : k < 5
      · have hI : (k : Int) < 5 := by omega
        obtain ⟨g, hge, hcell⟩ := HCELL.out k hlt
        have hcl := hcell wr HKR.out
        obtain ⟨fid, hfv, hen, hcall⟩ := ask_yes (B := B) (S := S) (km := km) (A := A) (Mo := Mo) r HOK.out w.heap.size (w.heap.size + 1) k (by rw [HN.out]; exact hlt)
        rw [hfv] at hcl
        have hm1 : (k + 1) * (1216 + K) ≤ 5 * (1216 + K) := Nat.mul_le_mul_right _ (by omega)
        have hm2 : (k + 1) * (1216 + K) = k * (1216 + K) + (1216 + K) := by rw [Nat.add_mul, Nat.one_mul]
        have hnl := HTR.out.nl
        have HCL := Lib.hid (hcall wr τ HSR.out (HBOX.out wr HKR.out) (by omega))
        have HM := Lib.hid (And.intro hm1 hm2)
        clear hcell hfv hcall hm1 hm2 hnl
        subst hge
        go_upto_region 9 with ((with_reducible refine HCL.out.mono ?_); rintro e w5 hr5; obtain ⟨q5, c5, he5⟩ := hr5.form; have HR5 := Lib.hid hr5; subst he5; clear hr5)
        rcases HR5.out.two with ⟨rfl, rfl, hlt5, τ5, hs5, ht5⟩ | ⟨r5, τ5, rfl, rfl, hs5, ht5, hd5⟩
        · have HFIN := Lib.hid (SpRes.full (F := ruleF r) (HK2.out.trans (HKR.out.trans HR5.out.1)) rfl (by have := HTR.out.hl; have := HM.out; omega) hs5 ((HTR.out.trans ht5).mono (show k * (1216 + K) + 1216 ≤ 5 * (1216 + K) by have := HM.out; omega) (show k * (1216 + K) + 1216 ≤ 5 * (1216 + K) by have := HM.out; omega)))
          clear hlt5 hs5 ht5
          go_wp2
          go_ret2
          exact HFIN.out
        · have HS5 := Lib.hid hs5
          have HT5 := Lib.hid (HTR.out.trans ht5)
          have HK5 := Lib.hid (HKR.out.trans HR5.out.1)
          have hnl := HT5.out.nl
          have hm := HM.out
          have hw := HWK.out (k + 1) (by omega)
          have HAN := Lib.hid (show Calls Tryz.prog 14 #[.pointer (some ⟨S, 0, none⟩), .int .i64 q, .int .i64 r5] w5 (SpRes w5 B S km A Mo τ5 (ruleK r (k + 1)) K K) from relAnd_yes hs5 (HDR.out.to ht5 HSR.out.ok hs5.ok) hd5 (ruleK_set r k) (askF_set r k) (a := K) (b := K) (Grow.wid hs5.ok.wf.two hw) (by omega))
          have s0 := cell0 (HBOX.out w5 HK5.out).s
          clear hs5 ht5 hd5 HR5 HCL hnl hm hw hcl hen
          go_upto_region 12 with ((with_reducible refine HAN.out.mono ?_); rintro e w7 hr7; obtain ⟨q7, c7, he7⟩ := hr7.form; have HR7 := Lib.hid hr7; subst he7; clear hr7)
          rcases HR7.out.two with ⟨rfl, rfl, hlt7, τ7, hs7, ht7⟩ | ⟨r7, τ7, rfl, rfl, hs7, ht7, hd7⟩
          · have HFIN := Lib.hid (SpRes.full (F := ruleF r) (HK2.out.trans (HK5.out.trans HR7.out.1)) rfl (by have := HT5.out.hl; have := HM.out; omega) hs7 ((HT5.out.trans ht7).mono (show k * (1216 + K) + 1216 + K ≤ 5 * (1216 + K) by have := HM.out; omega) (show k * (1216 + K) + 1216 + K ≤ 5 * (1216 + K) by have := HM.out; omega)))
            clear hlt7 hs7 ht7
            go_wp2
            go_ret2
            exact HFIN.out
          · have HS7 := Lib.hid hs7
            have HT7 := Lib.hid ((HT5.out.trans ht7).mono (show k * (1216 + K) + 1216 + K ≤ (k + 1) * (1216 + K) by have := HM.out; omega) (show k * (1216 + K) + 1216 + K ≤ (k + 1) * (1216 + K) by have := HM.out; omega))
            have HD7 := Lib.hid hd7
            have HK7 := Lib.hid (HK5.out.trans HR7.out.1)
            clear hs7 ht7 hd7 HR7 HAN
            go_wp2
            exact ⟨⟨k + 1, by go_num, by omega, r7, τ7, rfl, HS7, HT7, HD7, HK7⟩, by simp only [intOf]; omega⟩
      · obtain rfl : k = 5 := by omega
        have hI : ¬ ((5 : Nat) : Int) < 5 := by omega
        have hfd := HDR.out
        have hrf : ruleF r = ruleK r 5 := by unfold ruleF; rw [HN.out]
        rw [← hrf] at hfd
        have HFIN : Hid (SpRes w B S km A Mo σ (ruleF r) (5 * (1216 + K)) (5 * (1216 + K)) (.returned (.tuple #[.int .i64 q, .int .i64 0])) wr) := Lib.hid ⟨HK2.out.trans HKR.out, .inr ⟨q, τ, rfl, HSR.out, HTR.out.mono (Nat.mul_le_mul_right _ (by omega)) (Nat.mul_le_mul_right _ (by omega)), hfd⟩⟩
        clear hfd hrf
        go_wp2
        go_ret2
        exact HFIN.out
  · have hpi : ¬ r.proto ≥ 0 := hp
    have hne : asksN r = 4 := if_neg hp
    have HN := Lib.hid hne
    clear hp hne
    go_upto_region 4 with fail
    obtain ⟨A2, hA2e⟩ : ∃ A2 : Option Addr, A2 = some ⟨w0.heap.size, 0, none⟩ := ⟨_, rfl⟩
    obtain ⟨c2, hc2e⟩ : ∃ c2 : Nat, c2 = 4 := ⟨_, rfl⟩
    have HO2 := HROW
    have HA2 : Hid (0 < 4 → ∃ g, some (⟨w0.heap.size, 0, none⟩ : Addr) = some ⟨g, 0, none⟩) := Lib.hid fun _ => ⟨_, rfl⟩
    have HB2 := HB1
    clear HROW HB1 d1 hA2e hc2e
    clear A2 c2
    rename World => w2
    have HS2 := Lib.hid (HS.out.below HB2.out)
    have HK2 := Lib.hid (HK.out.trans (HS.out.kept HB2.out))
    have HAB2 := Lib.hid (show AskBox w2 S w.heap.size (w.heap.size + 1) r from ⟨blk_below HB2.out HAB.out.s, blk_below HB2.out HAB.out.r⟩)
    have HG2 := Lib.hid (And.intro (((HS.out.kept HB2.out).same _ HF1.out HNE.out.1).2) (((HS.out.kept HB2.out).same _ HF2.out HNE.out.2).2))
    have HBOX : Hid (∀ W, KeptS A km w2 W → AskBox W S w.heap.size (w.heap.size + 1) r) := Lib.hid fun W hW => ⟨(hW.same _ HG2.out.1 HNE.out.1).1.trans HAB2.out.s, (hW.same _ HG2.out.2 HNE.out.2).1.trans HAB2.out.r⟩
    have HCELL : Hid (∀ k, k < 4 → ∃ g, (some (⟨w0.heap.size, 0, none⟩ : Addr)) = some ⟨g, 0, none⟩ ∧ ∀ W, KeptS A km w2 W → W.cell? ⟨g, k, none⟩ = some (askV w.heap.size (w.heap.size + 1) k)) := Lib.hid fun k hk => by
      obtain ⟨g, hg⟩ := HA2.out (by omega)
      have hlg := HO2.out.lt g (by rw [hg]; rfl)
      have hgf := HS.out.sp.ar.foreign_new HB2.out hlg.1 hlg.2
      have hgk : g ≠ km := by have := HS.out.sp.fk.1; omega
      refine ⟨g, hg, fun W hW => (World.cell?_of_block (hW.same _ hgf hgk).1).trans ?_⟩
      have ho := HO2.out
      rw [hg] at ho
      refine (ho.cellAt k (by omega)).trans ?_
      obtain rfl | rfl | rfl | rfl : k = 0 ∨ k = 1 ∨ k = 2 ∨ k = 3 := by omega
      all_goals rfl
    clear HO2 HB2 HA2 HAB HF1 HF2 HSZ HAB2 HG2 HNE HS HK
    go_wp2
    go_loopw [7, 26] (fun f i wr => ∃ k : Nat, i = .int .i64 k ∧ k ≤ 4 ∧ ∃ (q : Nat) (τ : Sg), f = .int .i64 q ∧ Hid (SpOk wr B S km A Mo τ) ∧ Hid (To (k * (1216 + K)) (k * (1216 + K)) σ τ) ∧ Hid (Den τ q (ruleK r k)) ∧ Hid (KeptS A km w2 wr)) (fun _ i _ => 4 - (intOf i).toNat)
    case atStart => exact ⟨0, rfl, by omega, 1, σ, rfl, HS2, Lib.hid (by rw [Nat.zero_mul]; exact To.refl σ), Lib.hid (Den.one HS2.out.ok), Lib.hid (KeptS.refl _ _ _)⟩
    case round =>
      obtain ⟨k, rfl, hk, q, τ, rfl, HSR, HTR, HDR, HKR⟩ := hrel
      by_cases hlt : k < 4
      · have hI : (k : Int) < 4 := by omega
        obtain ⟨g, hge, hcell⟩ := HCELL.out k hlt
        have hcl := hcell wr HKR.out
        obtain ⟨fid, hfv, hen, hcall⟩ := ask_yes (B := B) (S := S) (km := km) (A := A) (Mo := Mo) r HOK.out w.heap.size (w.heap.size + 1) k (by rw [HN.out]; exact hlt)
        rw [hfv] at hcl
        have hm1 : (k + 1) * (1216 + K) ≤ 5 * (1216 + K) := Nat.mul_le_mul_right _ (by omega)
        have hm2 : (k + 1) * (1216 + K) = k * (1216 + K) + (1216 + K) := by rw [Nat.add_mul, Nat.one_mul]
        have hnl := HTR.out.nl
        have HCL := Lib.hid (hcall wr τ HSR.out (HBOX.out wr HKR.out) (by omega))
        have HM := Lib.hid (And.intro hm1 hm2)
        clear hcell hfv hcall hm1 hm2 hnl
        obtain rfl : g = w0.heap.size := by injection hge with hge; injection hge with h1; exact h1.symm
        go_upto_region 9 with ((with_reducible refine HCL.out.mono ?_); rintro e w5 hr5; obtain ⟨q5, c5, he5⟩ := hr5.form; have HR5 := Lib.hid hr5; subst he5; clear hr5)
        rcases HR5.out.two with ⟨rfl, rfl, hlt5, τ5, hs5, ht5⟩ | ⟨r5, τ5, rfl, rfl, hs5, ht5, hd5⟩
        · have HFIN := Lib.hid (SpRes.full (F := ruleF r) (HK2.out.trans (HKR.out.trans HR5.out.1)) rfl (by have := HTR.out.hl; have := HM.out; omega) hs5 ((HTR.out.trans ht5).mono (show k * (1216 + K) + 1216 ≤ 5 * (1216 + K) by have := HM.out; omega) (show k * (1216 + K) + 1216 ≤ 5 * (1216 + K) by have := HM.out; omega)))
          clear hlt5 hs5 ht5
          go_wp2
          go_ret2
          exact HFIN.out
        · have HS5 := Lib.hid hs5
          have HT5 := Lib.hid (HTR.out.trans ht5)
          have HK5 := Lib.hid (HKR.out.trans HR5.out.1)
          have hnl := HT5.out.nl
          have hm := HM.out
          have hw := HWK.out (k + 1) (by omega)
          have HAN := Lib.hid (show Calls Tryz.prog 14 #[.pointer (some ⟨S, 0, none⟩), .int .i64 q, .int .i64 r5] w5 (SpRes w5 B S km A Mo τ5 (ruleK r (k + 1)) K K) from relAnd_yes hs5 (HDR.out.to ht5 HSR.out.ok hs5.ok) hd5 (ruleK_set r k) (askF_set r k) (a := K) (b := K) (Grow.wid hs5.ok.wf.two hw) (by omega))
          have s0 := cell0 (HBOX.out w5 HK5.out).s
          clear hs5 ht5 hd5 HR5 HCL hnl hm hw hcl hen
          go_upto_region 12 with ((with_reducible refine HAN.out.mono ?_); rintro e w7 hr7; obtain ⟨q7, c7, he7⟩ := hr7.form; have HR7 := Lib.hid hr7; subst he7; clear hr7)
          rcases HR7.out.two with ⟨rfl, rfl, hlt7, τ7, hs7, ht7⟩ | ⟨r7, τ7, rfl, rfl, hs7, ht7, hd7⟩
          · have HFIN := Lib.hid (SpRes.full (F := ruleF r) (HK2.out.trans (HK5.out.trans HR7.out.1)) rfl (by have := HT5.out.hl; have := HM.out; omega) hs7 ((HT5.out.trans ht7).mono (show k * (1216 + K) + 1216 + K ≤ 5 * (1216 + K) by have := HM.out; omega) (show k * (1216 + K) + 1216 + K ≤ 5 * (1216 + K) by have := HM.out; omega)))
            clear hlt7 hs7 ht7
            go_wp2
            go_ret2
            exact HFIN.out
          · have HS7 := Lib.hid hs7
            have HT7 := Lib.hid ((HT5.out.trans ht7).mono (show k * (1216 + K) + 1216 + K ≤ (k + 1) * (1216 + K) by have := HM.out; omega) (show k * (1216 + K) + 1216 + K ≤ (k + 1) * (1216 + K) by have := HM.out; omega))
            have HD7 := Lib.hid hd7
            have HK7 := Lib.hid (HK5.out.trans HR7.out.1)
            clear hs7 ht7 hd7 HR7 HAN
            go_wp2
            exact ⟨⟨k + 1, by go_num, by omega, r7, τ7, rfl, HS7, HT7, HD7, HK7⟩, by simp only [intOf]; omega⟩
      · obtain rfl : k = 4 := by omega
        have hI : ¬ ((4 : Nat) : Int) < 4 := by omega
        have hfd := HDR.out
        have hrf : ruleF r = ruleK r 4 := by unfold ruleF; rw [HN.out]
        rw [← hrf] at hfd
        have HFIN : Hid (SpRes w B S km A Mo σ (ruleF r) (5 * (1216 + K)) (5 * (1216 + K)) (.returned (.tuple #[.int .i64 q, .int .i64 0])) wr) := Lib.hid ⟨HK2.out.trans HKR.out, .inr ⟨q, τ, rfl, HSR.out, HTR.out.mono (Nat.mul_le_mul_right _ (by omega)) (Nat.mul_le_mul_right _ (by omega)), hfd⟩⟩
        clear hfd hrf
        go_wp2
        go_ret2
        exact HFIN.out
end
end Go.Proofs.YtbahehmfhjkgeaaGreat

/-
  Rules that are the same but for what they say of headers that fit.
-/
namespace Go.Proofs.YtbahehmfhjkgeaaGreat
open Go Go.RowKit Go.ChangeMaps Go.MapKept Go.Maps Go.Lib Go.Sort

theorem eqPrefD (a m b n : Int) (d : Nat) (w : World) : (Op.equalIn (d + 1 + 1) 39 (.agg #[.int .u32 a, .int .i64 m]) (.agg #[.int .u32 b, .int .i64 n])).run Tryz.prog w = .ok (decide (a = b) && decide (m = n)) w := by
  have hS : Tryz.prog.underlying 39 = some (.struct (Tryz.prog.fieldsOf 39)) := by kernel_rfl
  have hp : Tryz.prog.stoodInHeld 39 = false := by kernel_rfl
  have a1 := Tryz.underlying37
  have a2 := Tryz.isAgg37
  have a3 := Tryz.sizeOf37
  have b1 := Tryz.underlying3
  have b2 := Tryz.isAgg3
  have b3 := Tryz.sizeOf3
  by_cases h1 : a = b
  · by_cases h2 : m = n
    · subst h1 h2
      rw [run_equalIn_agg w (d + 1) 39 _ _ hS hp]
      simp only [Program.fieldsOf, Tryz.underlying39]
      go_simp
    · subst h1
      rw [run_equalIn_agg w (d + 1) 39 _ _ hS hp]
      simp only [Program.fieldsOf, Tryz.underlying39]
      go_simp
  · rw [run_equalIn_agg w (d + 1) 39 _ _ hS hp]
    simp only [Program.fieldsOf, Tryz.underlying39]
    go_simp
theorem eqSpanD (a m b n : Int) (d : Nat) (w : World) : (Op.equalIn (d + 1 + 1) 41 (.agg #[.int .u32 a, .int .u32 m]) (.agg #[.int .u32 b, .int .u32 n])).run Tryz.prog w = .ok (decide (a = b) && decide (m = n)) w := by
  have hS : Tryz.prog.underlying 41 = some (.struct (Tryz.prog.fieldsOf 41)) := by kernel_rfl
  have hp : Tryz.prog.stoodInHeld 41 = false := by kernel_rfl
  have a1 := Tryz.underlying36
  have a2 := Tryz.isAgg36
  have a3 := Tryz.sizeOf36
  by_cases h1 : a = b
  · by_cases h2 : m = n
    · subst h1 h2
      rw [run_equalIn_agg w (d + 1) 41 _ _ hS hp]
      simp only [Program.fieldsOf, Tryz.underlying41]
      go_simp
    · subst h1
      rw [run_equalIn_agg w (d + 1) 41 _ _ hS hp]
      simp only [Program.fieldsOf, Tryz.underlying41]
      go_simp
  · rw [run_equalIn_agg w (d + 1) 41 _ _ hS hp]
    simp only [Program.fieldsOf, Tryz.underlying41]
    go_simp
/-- The same rule. -/
def sameR (x y : RuleV) : Bool := (x.permit == y.permit) && decide (x.proto = y.proto) && (decide (x.sa = y.sa) && decide (x.sn = y.sn)) && (decide (x.da = y.da) && decide (x.dn = y.dn)) && (decide (x.sl = y.sl) && decide (x.sh = y.sh)) && (decide (x.dl = y.dl) && decide (x.dh = y.dh))
theorem eqRuleD (x y : RuleV) (w : World) : (binOp .eql 43 (.agg #[.bool x.permit, .int .i64 x.proto, .int .u32 x.sa, .int .i64 x.sn, .int .u32 x.da, .int .i64 x.dn, .int .u32 x.sl, .int .u32 x.sh, .int .u32 x.dl, .int .u32 x.dh]) (.agg #[.bool y.permit, .int .i64 y.proto, .int .u32 y.sa, .int .i64 y.sn, .int .u32 y.da, .int .i64 y.dn, .int .u32 y.sl, .int .u32 y.sh, .int .u32 y.dl, .int .u32 y.dh])).run Tryz.prog w = .ok (.bool (sameR x y)) w := by
  have hS : Tryz.prog.underlying 43 = some (.struct (Tryz.prog.fieldsOf 43)) := by kernel_rfl
  have hp : Tryz.prog.stoodInHeld 43 = false := by kernel_rfl
  have b1 := Tryz.underlying3
  have b2 := Tryz.isAgg3
  have b3 := Tryz.sizeOf3
  have c1 := Tryz.underlying4
  have c2 := Tryz.isAgg4
  have c3 := Tryz.sizeOf4
  have d2 := Tryz.isAgg39
  have d3 := Tryz.sizeOf39
  have e2 := Tryz.isAgg41
  have e3 := Tryz.sizeOf41
  rw [run_eql_struct, show (10000 : Nat) = 9997 + 1 + 1 + 1 from rfl, run_equalIn_agg w (9997 + 1 + 1) 43 _ _ hS hp]
  generalize 9997 = d
  have E1 := fun w => eqPrefD x.sa x.sn y.sa y.sn d w
  have E2 := fun w => eqPrefD x.da x.dn y.da y.dn d w
  have E3 := fun w => eqSpanD x.sl x.sh y.sl y.sh d w
  have E4 := fun w => eqSpanD x.dl x.dh y.dl y.dh d w
  simp only [Program.fieldsOf, Tryz.underlying43]
  unfold sameR
  generalize (decide (x.sa = y.sa) && decide (x.sn = y.sn)) = P1 at *
  generalize (decide (x.da = y.da) && decide (x.dn = y.dn)) = P2 at *
  generalize (decide (x.sl = y.sl) && decide (x.sh = y.sh)) = P3 at *
  generalize (decide (x.dl = y.dl) && decide (x.dh = y.dh)) = P4 at *
  generalize x.permit = q1 at *
  generalize y.permit = q2 at *
  by_cases hq : q1 = q2
  · subst hq
    by_cases hp2 : x.proto = y.proto
    · rw [hp2]
      have e1 : (y.proto == y.proto) = true := by simp
      cases P1
      · cases q1 <;> go_simp
      · cases P2
        · cases q1 <;> go_simp
        · cases P3
          · cases q1 <;> go_simp
          · cases P4 <;> cases q1 <;> go_simp
    · have e1 : (x.proto == y.proto) = false := by simpa using hp2
      cases q1 <;> go_simp
  · cases q1 <;> cases q2
    · exact absurd rfl hq
    · go_simp
    · go_simp
    · exact absurd rfl hq
theorem rulesEq_any (x y : RuleV) (bx : Nat) (w : World) (hb : w.heap[bx]? = some (.cells #[.bool y.permit, .int .i64 y.proto, .int .u32 y.sa, .int .i64 y.sn, .int .u32 y.da, .int .i64 y.dn, .int .u32 y.sl, .int .u32 y.sh, .int .u32 y.dl, .int .u32 y.dh] 43 (0, 0))) :
    Calls Tryz.prog 50 #[.agg #[.bool x.permit, .int .i64 x.proto, .int .u32 x.sa, .int .i64 x.sn, .int .u32 x.da, .int .i64 x.dn, .int .u32 x.sl, .int .u32 x.sh, .int .u32 x.dl, .int .u32 x.dh], .pointer (some ⟨bx, 0, none⟩)] w fun e w' => e = .returned (.bool (sameR x y)) ∧ Below w.heap.size w w' := by
  have hbw := below1 w (.cells #[.bool x.permit, .int .i64 x.proto, .int .u32 x.sa, .int .i64 x.sn, .int .u32 x.da, .int .i64 x.dn, .int .u32 x.sl, .int .u32 x.sh, .int .u32 x.dl, .int .u32 x.dh] 43)
  have hk := blk1 w (.cells #[.bool x.permit, .int .i64 x.proto, .int .u32 x.sa, .int .i64 x.sn, .int .u32 x.da, .int .i64 x.dn, .int .u32 x.sl, .int .u32 x.sh, .int .u32 x.dl, .int .u32 x.dh] 43)
  have hy := blk_below hbw hb
  have HEQ := eqRuleD x y
  have HB := Lib.hid hbw
  go_enter Tryz.func50, Tryz.ntmps50
  go_upto_region 1 with fail
  clear hbw
  generalize w.alloc (.cells #[.bool x.permit, .int .i64 x.proto, .int .u32 x.sa, .int .i64 x.sn, .int .u32 x.da, .int .i64 x.dn, .int .u32 x.sl, .int .u32 x.sh, .int .u32 x.dl, .int .u32 x.dh] 43) = w1 at *
  have x0 : w1.cell? ⟨w.heap.size, 0, none⟩ = some (.bool x.permit) := cell_of_row _ _ 0 _ _ (0, 0) hk
  have x1 : w1.cell? ⟨w.heap.size, 1, none⟩ = some (.int .i64 x.proto) := cell_of_row _ _ 1 _ _ (0, 0) hk
  have x2 : w1.cell? ⟨w.heap.size, 2, none⟩ = some (.int .u32 x.sa) := cell_of_row _ _ 2 _ _ (0, 0) hk
  have x3 : w1.cell? ⟨w.heap.size, 3, none⟩ = some (.int .i64 x.sn) := cell_of_row _ _ 3 _ _ (0, 0) hk
  have x4 : w1.cell? ⟨w.heap.size, 4, none⟩ = some (.int .u32 x.da) := cell_of_row _ _ 4 _ _ (0, 0) hk
  have x5 : w1.cell? ⟨w.heap.size, 5, none⟩ = some (.int .i64 x.dn) := cell_of_row _ _ 5 _ _ (0, 0) hk
  have x6 : w1.cell? ⟨w.heap.size, 6, none⟩ = some (.int .u32 x.sl) := cell_of_row _ _ 6 _ _ (0, 0) hk
  have x7 : w1.cell? ⟨w.heap.size, 7, none⟩ = some (.int .u32 x.sh) := cell_of_row _ _ 7 _ _ (0, 0) hk
  have x8 : w1.cell? ⟨w.heap.size, 8, none⟩ = some (.int .u32 x.dl) := cell_of_row _ _ 8 _ _ (0, 0) hk
  have x9 : w1.cell? ⟨w.heap.size, 9, none⟩ = some (.int .u32 x.dh) := cell_of_row _ _ 9 _ _ (0, 0) hk
  have y0 : w1.cell? ⟨bx, 0, none⟩ = some (.bool y.permit) := cell_of_row _ _ 0 _ _ (0, 0) hy
  have y1 : w1.cell? ⟨bx, 1, none⟩ = some (.int .i64 y.proto) := cell_of_row _ _ 1 _ _ (0, 0) hy
  have y2 : w1.cell? ⟨bx, 2, none⟩ = some (.int .u32 y.sa) := cell_of_row _ _ 2 _ _ (0, 0) hy
  have y3 : w1.cell? ⟨bx, 3, none⟩ = some (.int .i64 y.sn) := cell_of_row _ _ 3 _ _ (0, 0) hy
  have y4 : w1.cell? ⟨bx, 4, none⟩ = some (.int .u32 y.da) := cell_of_row _ _ 4 _ _ (0, 0) hy
  have y5 : w1.cell? ⟨bx, 5, none⟩ = some (.int .i64 y.dn) := cell_of_row _ _ 5 _ _ (0, 0) hy
  have y6 : w1.cell? ⟨bx, 6, none⟩ = some (.int .u32 y.sl) := cell_of_row _ _ 6 _ _ (0, 0) hy
  have y7 : w1.cell? ⟨bx, 7, none⟩ = some (.int .u32 y.sh) := cell_of_row _ _ 7 _ _ (0, 0) hy
  have y8 : w1.cell? ⟨bx, 8, none⟩ = some (.int .u32 y.dl) := cell_of_row _ _ 8 _ _ (0, 0) hy
  have y9 : w1.cell? ⟨bx, 9, none⟩ = some (.int .u32 y.dh) := cell_of_row _ _ 9 _ _ (0, 0) hy
  clear hk hy hb
  go_wp2
  go_ret
  exact ⟨rfl, HB.out⟩
end Go.Proofs.YtbahehmfhjkgeaaGreat

/-
  A filter's rules, one behind the other: what is left, what each decides; the rows that the walk keeps.
-/
namespace Go.Proofs.YtbahehmfhjkgeaaGreat
open Go Go.RowKit Go.ChangeMaps Go.MapKept Go.Maps Go.Lib Go.Sort

def ruleAt (L : List RuleV) (k : Nat) : Fun := fun s => (L[k]?.map fun r => ruleF r s).getD false
/-- What the first k rules leave; what rule k decides. -/
def leftF (L : List RuleV) (k : Nat) : Fun := fun s => !(L.take k).any fun r => ruleF r s
def decF (L : List RuleV) (k : Nat) : Fun := fun s => leftF L k s && ruleAt L k s
theorem ruleAt_eq {L : List RuleV} {k : Nat} {r : RuleV} (h : L[k]? = some r) : ruleAt L k = ruleF r := funext fun s => by unfold ruleAt; rw [h]; rfl
theorem leftF_succ {L : List RuleV} {k : Nat} {r : RuleV} (h : L[k]? = some r) : leftF L (k + 1) = fun s => leftF L k s && !ruleF r s := funext fun s => by
  unfold leftF
  rw [List.take_add_one, h]
  simp [List.any_append]
theorem decF_eq {L : List RuleV} {k : Nat} {r : RuleV} (h : L[k]? = some r) : decF L k = fun s => leftF L k s && ruleF r s := funext fun s => by
  unfold decF
  rw [ruleAt_eq h]
theorem leftF_set (L : List RuleV) : ∀ k, SetF (leftF L k) := by
  intro k
  induction k with
  | zero => exact SetF.const true
  | succ k ih =>
    cases h : L[k]? with
    | none =>
      have e : leftF L (k + 1) = leftF L k := by unfold leftF; rw [List.take_add_one, h]; simp
      rw [e]; exact ih
    | some r =>
      rw [leftF_succ h]
      exact ih.op2 (fun x y => x && !y) (ruleK_set r _)
theorem decF_set {L : List RuleV} {k : Nat} {r : RuleV} (h : L[k]? = some r) : SetF (decF L k) := by
  rw [decF_eq h]
  exact (leftF_set L k).op2 (fun x y => x && y) (ruleK_set r _)
/-- A rule that denies, the same otherwise. -/
def anyR (r : RuleV) : RuleV := ⟨false, r.proto, r.sa, r.sn, r.da, r.dn, r.sl, r.sh, r.dl, r.dh, r.hpr, r.hsa, r.hda, r.hsl, r.hsh, r.hdl, r.hdh⟩
theorem askF_any (r : RuleV) : ∀ k, askF (anyR r) k = askF r k
  | 0 => rfl
  | 1 => rfl
  | 2 => rfl
  | 3 => rfl
  | _ + 4 => rfl
theorem ruleK_any (r : RuleV) : ∀ k, ruleK (anyR r) k = ruleK r k
  | 0 => rfl
  | k + 1 => by
    show (fun s => ruleK (anyR r) k s && askF (anyR r) k s) = fun s => ruleK r k s && askF r k s
    rw [ruleK_any r k, askF_any]
theorem ruleF_any (r : RuleV) : ruleF (anyR r) = ruleF r := ruleK_any r _
theorem sameR_eq {x y : RuleV} (h : sameR x y = true) : x = y := by
  unfold sameR at h
  simp only [Bool.and_eq_true, decide_eq_true_eq, beq_iff_eq] at h
  obtain ⟨⟨⟨⟨⟨h1, h2⟩, h3, h4⟩, h5, h6⟩, h7, h8⟩, h9, h10⟩ := h
  cases x; cases y
  simp only at h1 h2 h3 h4 h5 h6 h7 h8 h9 h10
  subst h1 h2 h3 h4 h5 h6 h7 h8 h9 h10
  rfl
/-- Nodes in a row. -/
def ncl (ns : List Nat) : List Value := ns.map fun (n : Nat) => Value.int .i64 (n : Int)
/-- The row's block is none of the space's. -/
def OwnF (A : Blks) (km S : Nat) (w : World) (v : Value) : Prop := ∀ g, v.ownBlock = some g → Foreign A w g ∧ g ≠ km ∧ g ≠ S
/-- A list that came in, in a block that is none of the space's. -/
def RdF (A : Blks) (km : Nat) (w : World) (k : Nat) (v : Value) (n : Nat) (xs : List Value) : Prop :=
  ∃ (P : Option Addr) (c : Nat), v = .slice P n c ∧ n ≤ c ∧ xs.length = n * k ∧ (0 < n → ∃ b off, P = some ⟨b, off, none⟩ ∧ Foreign A w b ∧ b ≠ km ∧ ∀ j u, xs[j]? = some u → w.cell? ⟨b, off + j, none⟩ = some u)
theorem RdF.rd {A : Blks} {km : Nat} {w : World} {k : Nat} {v : Value} {n : Nat} {xs : List Value} (h : RdF A km w k v n xs) : Rd w w.heap.size k v n xs := by
  obtain ⟨P, c, h1, h2, h3, h4⟩ := h
  exact ⟨P, c, h1, h2, h3, fun hn => by obtain ⟨b, off, e, f, _, g⟩ := h4 hn; exact ⟨b, off, e, f.1, g⟩⟩
theorem RdF.kept {A : Blks} {km : Nat} {w w' : World} {k : Nat} {v : Value} {n : Nat} {xs : List Value} (h : RdF A km w k v n xs) (hk : KeptS A km w w') : RdF A km w' k v n xs := by
  obtain ⟨P, c, h1, h2, h3, h4⟩ := h
  refine ⟨P, c, h1, h2, h3, fun hn => ?_⟩
  obtain ⟨b, off, e, f, f2, g⟩ := h4 hn
  exact ⟨b, off, e, (hk.same b f f2).2, f2, fun j u hu => (World.cell?_of_block (hk.same b f f2).1).trans (g j u hu)⟩
section
variable {w0 wr : World} {B S km : Nat} {A : Blks} {Mo : Nat} {τ : Sg}
/-- The space where blocks of others turned. -/
theorem SpOk.others {w w' : World} (h : SpOk w B S km A Mo τ) {r : Option Nat} (hg : w.grownBy w' r) (hr : ∀ g, r = some g → Foreign A w g ∧ g ≠ km ∧ g ≠ S) :
    SpOk w' B S km A Mo τ ∧ (∀ k, Foreign A w k → Foreign A w' k) ∧ ∀ k, w.heap.size ≤ k → k < w'.heap.size → Foreign A w' k ∧ k ≠ km ∧ k ≠ S := by
  obtain ⟨nv, hA⟩ := h.sp.ar
  obtain ⟨a1, a2, a3⟩ := hA.calm hg.size fun k hk hn => hg.block k hk (fun e => hn (hr k e.symm).1)
  have hkm := h.sp.fk.1
  have hS := lt_of_block h.sp.cells
  exact ⟨⟨⟨⟨nv, a1⟩, (hg.block S hS (fun e => (hr S e.symm).2.2 rfl)).trans h.sp.cells, a2 _ h.sp.fs, h.sp.known.same (hg.block km hkm (fun e => (hr km e.symm).2.1 rfl)), a2 _ h.sp.fk, h.sp.ne⟩, h.ok⟩, a2, fun k h1 h2 => ⟨a3 k h1 h2, by omega, by omega⟩⟩
theorem KeptS.others {w w' w0 : World} (h : KeptS A km w0 w) {r : Option Nat} (hg : w.grownBy w' r) (hs : ∀ g, r = some g → w0.heap.size ≤ g) (hf : ∀ k, Foreign A w k → Foreign A w' k) : KeptS A km w0 w' :=
  ⟨hg.os.trans h.os, hg.tape.trans h.tape, hg.output.trans h.output, Nat.le_trans h.size hg.size, fun k hk hn => ⟨(hg.block k (Nat.lt_of_lt_of_le hk.1 h.size) (fun e => by have := hs k e.symm; have := hk.1; omega)).trans (h.same k hk hn).1, hf k (h.same k hk hn).2⟩⟩
/-- What the walk of the rules keeps: the space, the row of what is decided, the row of the rules that were seen. -/
structure RuSt (w0 wr : World) (B S km : Nat) (A : Blks) (Mo : Nat) (τ : Sg) (ov : Value) (ns : List Nat) (sv : Value) (D : List RuleV) : Prop where
  sp : SpOk wr B S km A Mo τ
  kept : KeptS A km w0 wr
  out : wr.ownsRow w0.heap.size 3 1 ov ns.length (ncl ns)
  outf : OwnF A km S wr ov
  seen : wr.ownsRow w0.heap.size 43 10 sv D.length (rcells D)
  seenf : OwnF A km S wr sv
  dis : ∀ g, ov.ownBlock = some g → sv.ownBlock ≠ some g
theorem RuSt.space {ov sv : Value} {ns : List Nat} {D : List RuleV} {w' : World} {τ' : Sg} (h : RuSt w0 wr B S km A Mo τ ov ns sv D) (k : KeptS A km wr w') (s : SpOk w' B S km A Mo τ') : RuSt w0 w' B S km A Mo τ' ov ns sv D :=
  ⟨s, h.kept.trans k, owns_like h.out fun g hg => (k.same g (h.outf g hg).1 (h.outf g hg).2.1).1, fun g hg => ⟨(k.same g (h.outf g hg).1 (h.outf g hg).2.1).2, (h.outf g hg).2⟩,
    owns_like h.seen fun g hg => (k.same g (h.seenf g hg).1 (h.seenf g hg).2.1).1, fun g hg => ⟨(k.same g (h.seenf g hg).1 (h.seenf g hg).2.1).2, (h.seenf g hg).2⟩, h.dis⟩
theorem RuSt.below {ov sv : Value} {ns : List Nat} {D : List RuleV} {w' : World} (h : RuSt w0 wr B S km A Mo τ ov ns sv D) (hb : Below wr.heap.size wr w') : RuSt w0 w' B S km A Mo τ ov ns sv D := h.space (h.sp.kept hb) (h.sp.below hb)
theorem RuSt.start (h : SpOk w0 B S km A Mo τ) : RuSt w0 w0 B S km A Mo τ (.slice none 0 0) [] (.slice none 0 0) [] :=
  ⟨h, KeptS.refl _ _ _, World.ownsRow_nil _ _ _ _, fun g hg => by simp [Value.ownBlock] at hg, World.ownsRow_nil _ _ _ _, fun g hg => by simp [Value.ownBlock] at hg, fun g hg => by simp [Value.ownBlock] at hg⟩
theorem OwnF.pushed {w w' : World} {v v' : Value} (h : OwnF A km S w v) (hf : ∀ k, Foreign A w k → Foreign A w' k) (hn : ∀ k, w.heap.size ≤ k → k < w'.heap.size → Foreign A w' k ∧ k ≠ km ∧ k ≠ S) (hm : Moved v v' w.heap.size) (hl : ∀ g, v'.ownBlock = some g → g < w'.heap.size) : OwnF A km S w' v' := fun g hg => by
  rcases hm with hm | hm
  · have := h g (by rw [← hm]; exact hg)
    exact ⟨hf g this.1, this.2⟩
  · exact hn g (hm g hg) (hl g hg)
theorem RuSt.pushOut {ov sv ov' : Value} {ns : List Nat} {D : List RuleV} {w' : World} {n : Nat} (h : RuSt w0 wr B S km A Mo τ ov ns sv D) (ho : w'.ownsRow w0.heap.size 3 1 ov' (ns.length + 1) (ncl ns ++ [.int .i64 (n : Int)])) (hg : wr.grownBy w' ov.ownBlock) (hm : Moved ov ov' wr.heap.size) :
    RuSt w0 w' B S km A Mo τ ov' (ns ++ [n]) sv D := by
  obtain ⟨s1, s2, s3⟩ := h.sp.others hg h.outf
  have hk := h.kept.others hg (fun g hg => (h.out.lt g hg).1) s2
  have hsame : ∀ g, sv.ownBlock = some g → w'.heap[g]? = wr.heap[g]? := fun g hgs => hg.block g (h.seen.lt g hgs).2 (fun e => h.dis g e.symm hgs)
  refine ⟨s1, hk, ?_, h.outf.pushed s2 s3 hm (fun g hg => (ho.lt g hg).2), owns_like h.seen hsame, fun g hgs => ⟨s2 g (h.seenf g hgs).1, (h.seenf g hgs).2⟩, fun g hgo hgs => ?_⟩
  · rw [List.length_append]
    have e : ncl (ns ++ [n]) = ncl ns ++ [.int .i64 (n : Int)] := by simp [ncl]
    rw [e]
    exact ho
  · rcases hm with hm | hm
    · exact h.dis g (by rw [← hm]; exact hgo) hgs
    · have := hm g hgo
      have := (h.seen.lt g hgs).2
      omega
theorem RuSt.pushSeen {ov sv sv' : Value} {ns : List Nat} {D : List RuleV} {w' : World} {r : RuleV} (h : RuSt w0 wr B S km A Mo τ ov ns sv D) (ho : w'.ownsRow w0.heap.size 43 10 sv' (D.length + 1) (rcells D ++ r.enc)) (hg : wr.grownBy w' sv.ownBlock) (hm : Moved sv sv' wr.heap.size) :
    RuSt w0 w' B S km A Mo τ ov ns sv' (D ++ [r]) := by
  obtain ⟨s1, s2, s3⟩ := h.sp.others hg h.seenf
  have hk := h.kept.others hg (fun g hg => (h.seen.lt g hg).1) s2
  have hsame : ∀ g, ov.ownBlock = some g → w'.heap[g]? = wr.heap[g]? := fun g hgo => hg.block g (h.out.lt g hgo).2 (fun e => h.dis g hgo e.symm)
  refine ⟨s1, hk, owns_like h.out hsame, fun g hgo => ⟨s2 g (h.outf g hgo).1, (h.outf g hgo).2⟩, ?_, h.seenf.pushed s2 s3 hm (fun g hg => (ho.lt g hg).2), fun g hgo hgs => ?_⟩
  · rw [List.length_append]
    have e : rcells (D ++ [r]) = rcells D ++ r.enc := by simp [rcells]
    rw [e]
    exact ho
  · rcases hm with hm | hm
    · exact h.dis g hgo (by rw [← hm]; exact hgs)
    · have := hm g hgs
      have := (h.out.lt g hgo).2
      omega
end
end Go.Proofs.YtbahehmfhjkgeaaGreat

/-
  The sets for which each rule of a filter decides (written by wip/gen/genfr5.py).
-/
namespace Go.Proofs.YtbahehmfhjkgeaaGreat
open Go Go.RowKit Go.ChangeMaps Go.MapKept Go.Maps Go.Lib Go.Sort

/-- What Rules comes to: a node for each rule, or no room. -/
def RulesRes (w : World) (B S km : Nat) (A : Blks) (Mo : Nat) (σ : Sg) (L : List RuleV) (k : Nat) (e : Ending) (w' : World) : Prop :=
  KeptS A km w w' ∧ ((e = .returned (.tuple #[.slice none 0 0, .int .i64 3]) ∧ Mo < σ.H.length + k ∧ ∃ τ, SpOk w' B S km A Mo τ ∧ To k k σ τ) ∨
    ∃ (v : Value) (ns : List Nat) (τ : Sg), e = .returned (.tuple #[v, .int .i64 0]) ∧ SpOk w' B S km A Mo τ ∧ To k k σ τ ∧ ns.length = L.length ∧ (∀ i n, ns[i]? = some n → Den τ n (decF L i)) ∧ w'.ownsRow w.heap.size 3 1 v ns.length (ncl ns) ∧ OwnF A km S w' v)
theorem RulesRes.full {w w' : World} {B S km : Nat} {A : Blks} {Mo : Nat} {σ τ : Sg} {L : List RuleV} {k : Nat} {e : Ending} (hk : KeptS A km w w') (h1 : e = .returned (.tuple #[.slice none 0 0, .int .i64 3])) (h2 : Mo < σ.H.length + k) (h3 : SpOk w' B S km A Mo τ) (h4 : To k k σ τ) : RulesRes w B S km A Mo σ L k e w' := ⟨hk, .inl ⟨h1, h2, τ, h3, h4⟩⟩
/-- How much a filter's diagrams may take, rule by rule. -/
def FiltW (L : List RuleV) (K : Nat) : Prop := ∀ (k : Nat) (r : RuleV), L[k]? = some r → (∀ j, j ≤ 5 → Wid (ruleK r j) K) ∧ Wid (decF L k) K ∧ Wid (leftF L (k + 1)) K
theorem rule_may {L : List RuleV} (he : filtE L = 0) : L.length ≤ 256 ∧ ∀ (k : Nat) (r : RuleV), L[k]? = some r → RuleOk r := by
  unfold filtE at he
  split at he
  · cases he
  · split at he
    · cases he
    · rename_i h1 h2
      refine ⟨by omega, fun k r hr => RuleOk.of ?_⟩
      simp only [List.any_eq_true, not_exists, not_and, Bool.not_eq_true'] at h2
      have := h2 r (List.mem_of_getElem? hr)
      simpa using this
theorem den_snoc {τ : Sg} {ns : List Nat} {F : Nat → Fun} {k n : Nat} (h : ∀ i m, ns[i]? = some m → Den τ m (F i)) (hk : ns.length = k) (hd : Den τ n (F k)) : ∀ i m, (ns ++ [n])[i]? = some m → Den τ m (F i) := fun i m hi => by
  rcases Nat.lt_or_ge i ns.length with h1 | h1
  · rw [List.getElem?_append_left h1] at hi
    exact h i m hi
  · rw [List.getElem?_append_right h1] at hi
    have h2 : i = ns.length := by
      have := (List.getElem?_eq_some_iff.1 hi).1
      simp at this
      omega
    subst h2
    rw [Nat.sub_self] at hi
    simp at hi
    subst hi
    rw [hk]
    exact hd
theorem rulesEq_pred (y : RuleV) (bx : Nat) (w : World) (hb : w.heap[bx]? = some (.cells #[.bool y.permit, .int .i64 y.proto, .int .u32 y.sa, .int .i64 y.sn, .int .u32 y.da, .int .i64 y.dn, .int .u32 y.sl, .int .u32 y.sh, .int .u32 y.dl, .int .u32 y.dh] 43 (0, 0))) : PredBelow Tryz.prog 50 #[.pointer (some ⟨bx, 0, none⟩)] (fun x : RuleV => .agg x.enc.toArray) (fun x => sameR x y) w := fun W x hW =>
  (rulesEq_any x y bx W (blk_below hW hb)).mono fun _ _ ⟨he, hb'⟩ => ⟨he, hW.trans (hb'.mono hW.size)⟩
theorem Tryz.infoRuleF : (Tryz.prog.info? 43).map (fun i => (i.zero, i.size, i.bytes)) = some (some (.agg #[.bool false, .int .i64 0, .int .u32 0, .int .i64 0, .int .u32 0, .int .i64 0, .int .u32 0, .int .u32 0, .int .u32 0, .int .u32 0]), 10, 64) := by kernel_rfl
section
variable {w : World} {B S km : Nat} {A : Blks} {Mo : Nat} {σ : Sg}
set_option maxRecDepth 100000
set_option maxHeartbeats 8000000
theorem rules_yes (h : SpOk w B S km A Mo σ) (nm : ByteArray) (L : List RuleV) (vL : Value) (hL : RdF A km w 10 vL L.length (rcells L)) (he : filtE L = 0) (K : Nat) (hK : FiltW L K) (hl : σ.N.length + L.length * (6080 + 7 * K) ≤ 2147483647) :
    Calls Tryz.prog 11 #[.pointer (some ⟨S, 0, none⟩), .agg #[.string nm, vL]] w (RulesRes w B S km A Mo σ L (L.length * (6080 + 7 * K))) := by
  obtain ⟨hlen, hmay⟩ := rule_may he
  obtain ⟨i0, hif, hz0, hz1, hz2⟩ := info_parts Tryz.infoInt
  obtain ⟨j0, jif, jz0, jz1, jz2⟩ := info_parts Tryz.infoRuleF
  obtain ⟨PL, cL, rfl, _⟩ := hL.rd.form
  have hbw := below1 w (.cells #[.string nm, .slice PL L.length cL] 24)
  have hbk := blk1 w (.cells #[.string nm, .slice PL L.length cL] 24)
  have HL := Lib.hid (hL.kept (h.kept hbw))
  have HS := Lib.hid (h.below hbw)
  have HK0 := Lib.hid (h.kept hbw)
  have HB0 := Lib.hid hbw
  have HBK := Lib.hid hbk
  have HWK := Lib.hid hK
  have HMAY := Lib.hid hmay
  have b0 : (w.alloc (.cells #[.string nm, .slice PL L.length cL] 24)).cell? ⟨w.heap.size, 0, none⟩ = some (.string nm) := cell_of_row _ _ 0 _ _ (0, 0) hbk
  have b1 : (w.alloc (.cells #[.string nm, .slice PL L.length cL] 24)).cell? ⟨w.heap.size, 1, none⟩ = some (.slice PL L.length cL) := cell_of_row _ _ 1 _ _ (0, 0) hbk
  have hck := filtCheck_any nm L _ _ HL.out.rd
  rw [he] at hck
  have HCK := Lib.hid hck
  clear h hL he hbw hbk hK hmay hck
  go_enter Tryz.func11, Tryz.ntmps11
  go_upto_region 1 with fail
  generalize w.alloc (.cells #[.string nm, .slice PL L.length cL] 24) = w0 at *
  go_upto_region 6 with ((with_reducible refine HCK.out.mono ?_); rintro e w2 ⟨rfl, hb2⟩; have HB2 := Lib.hid hb2; clear hb2)
  have HS2 := Lib.hid (HS.out.below HB2.out)
  have HK2 := Lib.hid (HK0.out.trans (HS.out.kept HB2.out))
  have HL2 := Lib.hid (HL.out.kept (HS.out.kept HB2.out))
  have HSZ : Hid (w.heap.size ≤ w2.heap.size) := Lib.hid (Nat.le_trans HB0.out.size HB2.out.size)
  have d1 : w2.cell? ⟨w.heap.size, 1, none⟩ = some (.slice PL L.length cL) := cell_of_row _ _ 1 _ _ (0, 0) (blk_below HB2.out HBK.out)
  clear b0 b1 HCK HB2 HS HL HK0 HBK HB0
  go_wp2
  go_loopw [7, 8, 9, 26] (fun q ov sv i wr => ∃ k : Nat, i = .int .i64 k ∧ k ≤ L.length ∧ ∃ (n : Nat) (τ : Sg) (ns : List Nat) (D : List RuleV), q = .int .i64 n ∧ Hid (RuSt w2 wr B S km A Mo τ ov ns sv D) ∧ Hid (ns.length = k) ∧ Hid (To (k * (6080 + 7 * K)) (k * (6080 + 7 * K)) σ τ) ∧ Hid (Den τ n (leftF L k)) ∧ Hid (∀ i m, ns[i]? = some m → Den τ m (decF L i)) ∧ Hid (D.length ≤ k ∧ ∀ d ∈ D, ∃ j x, j < k ∧ L[j]? = some x ∧ ruleF d = ruleF x)) (fun _ _ _ i _ => L.length - (intOf i).toNat)
  case atStart => exact ⟨0, rfl, by omega, 1, σ, [], [], rfl, Lib.hid (RuSt.start HS2.out), Lib.hid rfl, Lib.hid (by rw [Nat.zero_mul]; exact To.refl σ), Lib.hid (Den.one HS2.out.ok), Lib.hid (by simp), Lib.hid ⟨by simp, by simp⟩⟩
  case round =>
    obtain ⟨k, rfl, hk, n, τ, ns, D, rfl, HR, HNS, HT, HD, HDS, HDD⟩ := hrel
    obtain ⟨Ao, co, hove, _⟩ := owns_form HR.out.out
    obtain ⟨As, cs, hsve, _⟩ := owns_form HR.out.seen
    subst hove hsve
    by_cases hlt : k < L.length
    · have hI : (k : Int) < (L.length : Int) := by omega
      obtain ⟨r, hr⟩ : ∃ r, L[k]? = some r := ⟨_, List.getElem?_eq_getElem hlt⟩
      obtain ⟨P', c', hv', _, _, hcell⟩ := HL2.out.kept HR.out.kept
      injection hv' with hP hlq hcq
      subst hP hcq
      clear hlq
      obtain ⟨bL, off, rfl, _, _, hcell⟩ := hcell (by omega)
      have r0 : wr.cell? ⟨bL, off + k * 10, none⟩ = some (.bool r.permit) := hcell (k * 10) _ (rcell (i := 0) hr rfl)
      have r1 : wr.cell? ⟨bL, off + k * 10 + 1, none⟩ = some (.int .i64 r.proto) := by have := hcell (k * 10 + 1) _ (rcell (i := 1) hr rfl); rwa [← Nat.add_assoc] at this
      have r2 : wr.cell? ⟨bL, off + k * 10 + 2, none⟩ = some (.int .u32 r.sa) := by have := hcell (k * 10 + 2) _ (rcell (i := 2) hr rfl); rwa [← Nat.add_assoc] at this
      have r3 : wr.cell? ⟨bL, off + k * 10 + 3, none⟩ = some (.int .i64 r.sn) := by have := hcell (k * 10 + 3) _ (rcell (i := 3) hr rfl); rwa [← Nat.add_assoc] at this
      have r4 : wr.cell? ⟨bL, off + k * 10 + 4, none⟩ = some (.int .u32 r.da) := by have := hcell (k * 10 + 4) _ (rcell (i := 4) hr rfl); rwa [← Nat.add_assoc] at this
      have r5 : wr.cell? ⟨bL, off + k * 10 + 5, none⟩ = some (.int .i64 r.dn) := by have := hcell (k * 10 + 5) _ (rcell (i := 5) hr rfl); rwa [← Nat.add_assoc] at this
      have r6 : wr.cell? ⟨bL, off + k * 10 + 6, none⟩ = some (.int .u32 r.sl) := by have := hcell (k * 10 + 6) _ (rcell (i := 6) hr rfl); rwa [← Nat.add_assoc] at this
      have r7 : wr.cell? ⟨bL, off + k * 10 + 7, none⟩ = some (.int .u32 r.sh) := by have := hcell (k * 10 + 7) _ (rcell (i := 7) hr rfl); rwa [← Nat.add_assoc] at this
      have r8 : wr.cell? ⟨bL, off + k * 10 + 8, none⟩ = some (.int .u32 r.dl) := by have := hcell (k * 10 + 8) _ (rcell (i := 8) hr rfl); rwa [← Nat.add_assoc] at this
      have r9 : wr.cell? ⟨bL, off + k * 10 + 9, none⟩ = some (.int .u32 r.dh) := by have := hcell (k * 10 + 9) _ (rcell (i := 9) hr rfl); rwa [← Nat.add_assoc] at this
      have HRR := Lib.hid hr
      have hok := HMAY.out k r hr
      have hwk := HWK.out k r hr
      have HOK := Lib.hid (And.intro hok hwk)
      have hm1 : (k + 1) * (6080 + 7 * K) ≤ L.length * (6080 + 7 * K) := Nat.mul_le_mul_right _ hlt
      have hm2 : (k + 1) * (6080 + 7 * K) = k * (6080 + 7 * K) + (6080 + 7 * K) := by rw [Nat.add_mul, Nat.one_mul]
      have HM := Lib.hid (And.intro hm1 hm2)
      clear hcell hr hok hwk hm1 hm2
      go_upto_region 13 with fail
      have hb3 := below2 wr (.cells #[.bool r.permit, .int .i64 r.proto, .int .u32 r.sa, .int .i64 r.sn, .int .u32 r.da, .int .i64 r.dn, .int .u32 r.sl, .int .u32 r.sh, .int .u32 r.dl, .int .u32 r.dh] 43) (.cells #[.bool r.permit, .int .i64 r.proto, .int .u32 r.sa, .int .i64 r.sn, .int .u32 r.da, .int .i64 r.dn, .int .u32 r.sl, .int .u32 r.sh, .int .u32 r.dl, .int .u32 r.dh] 43)
      have hs3 : (wr.alloc (.cells #[.bool r.permit, .int .i64 r.proto, .int .u32 r.sa, .int .i64 r.sn, .int .u32 r.da, .int .i64 r.dn, .int .u32 r.sl, .int .u32 r.sh, .int .u32 r.dl, .int .u32 r.dh] 43)).heap.size = wr.heap.size + 1 := by simp
      have ka := blk_below (below1 (wr.alloc (.cells #[.bool r.permit, .int .i64 r.proto, .int .u32 r.sa, .int .i64 r.sn, .int .u32 r.da, .int .i64 r.dn, .int .u32 r.sl, .int .u32 r.sh, .int .u32 r.dl, .int .u32 r.dh] 43)) (.cells #[.bool r.permit, .int .i64 r.proto, .int .u32 r.sa, .int .i64 r.sn, .int .u32 r.da, .int .i64 r.dn, .int .u32 r.sl, .int .u32 r.sh, .int .u32 r.dl, .int .u32 r.dh] 43)) (blk1 wr (.cells #[.bool r.permit, .int .i64 r.proto, .int .u32 r.sa, .int .i64 r.sn, .int .u32 r.da, .int .i64 r.dn, .int .u32 r.sl, .int .u32 r.sh, .int .u32 r.dl, .int .u32 r.dh] 43))
      have kb := blk1 (wr.alloc (.cells #[.bool r.permit, .int .i64 r.proto, .int .u32 r.sa, .int .i64 r.sn, .int .u32 r.da, .int .i64 r.dn, .int .u32 r.sl, .int .u32 r.sh, .int .u32 r.dl, .int .u32 r.dh] 43)) (.cells #[.bool r.permit, .int .i64 r.proto, .int .u32 r.sa, .int .i64 r.sn, .int .u32 r.da, .int .i64 r.dn, .int .u32 r.sl, .int .u32 r.sh, .int .u32 r.dl, .int .u32 r.dh] 43)
      rw [hs3] at kb
      have HR3 := Lib.hid (HR.out.below hb3)
      have HB3 := Lib.hid hb3
      have HA3 := Lib.hid ka
      clear hs3 hb3 r0 r1 r2 r3 r4 r5 r6 r7 r8 r9
      generalize (wr.alloc (.cells #[.bool r.permit, .int .i64 r.proto, .int .u32 r.sa, .int .i64 r.sn, .int .u32 r.da, .int .i64 r.dn, .int .u32 r.sl, .int .u32 r.sh, .int .u32 r.dl, .int .u32 r.dh] 43)).alloc (.cells #[.bool r.permit, .int .i64 r.proto, .int .u32 r.sa, .int .i64 r.sn, .int .u32 r.da, .int .i64 r.dn, .int .u32 r.sl, .int .u32 r.sh, .int .u32 r.dl, .int .u32 r.dh] 43) = w3 at *
      have fz := frozen_of_row w3 _ 0 _ _ kb
      have cz : w3.cell? ⟨wr.heap.size + 1, 0, none⟩ = some (.bool r.permit) := cell_of_row _ _ 0 _ _ (0, 0) kb
      have st : ∀ k, k ≠ wr.heap.size + 1 → (w3.setCell ⟨wr.heap.size + 1, 0, none⟩ (.bool false)).heap[k]? = w3.heap[k]? := fun k hk => Below.heap_setCell w3 ⟨wr.heap.size + 1, 0, none⟩ _ k hk
      have hsz : (w3.setCell ⟨wr.heap.size + 1, 0, none⟩ (.bool false)).heap.size = w3.heap.size := by simp [World.setCell]
      have hb4 : Below wr.heap.size wr (w3.setCell ⟨wr.heap.size + 1, 0, none⟩ (.bool false)) := ⟨HB3.out.os, HB3.out.tape, HB3.out.output, by have := HB3.out.size; omega, fun k hk => (st k (by omega)).trans (HB3.out.block k hk)⟩
      have kb4 : (w3.setCell ⟨wr.heap.size + 1, 0, none⟩ (.bool false)).heap[wr.heap.size + 1]? = some (.cells #[.bool (anyR r).permit, .int .i64 (anyR r).proto, .int .u32 (anyR r).sa, .int .i64 (anyR r).sn, .int .u32 (anyR r).da, .int .i64 (anyR r).dn, .int .u32 (anyR r).sl, .int .u32 (anyR r).sh, .int .u32 (anyR r).dl, .int .u32 (anyR r).dh] 43 (0, 0)) := heap_setCell_same _ _ _ _ _ _ kb
      have ka4 := (st wr.heap.size (by omega)).trans ka
      have HR4 := Lib.hid (HR.out.below hb4)
      have HKA := Lib.hid ka4
      have HKB := Lib.hid kb4
      have HB4 := Lib.hid hb4
      clear st hsz hb4 kb4 ka4 ka kb HR3 HB3 HA3
      go_upto_region 14 with fail
      clear fz cz
      generalize w3.setCell ⟨wr.heap.size + 1, 0, none⟩ (.bool false) = w4 at *
      have HCON := Lib.hid (containsRule_any D _ (fun x => sameR x (anyR r)) 50 #[.pointer (some ⟨wr.heap.size + 1, 0, none⟩)] w4 (enters_of Tryz.func50 (by kernel_rfl) rfl) (rulesEq_pred (anyR r) _ w4 HKB.out) (Rd.of_own HR4.out.seen) (by have := HDD.out.1; omega))
      have HANY := Lib.hid (show D.any (fun x => sameR x (anyR r)) = true → leftF L (k + 1) = leftF L k ∧ decF L k = fun _ => false from fun ha => by
        obtain ⟨d, hd, hs⟩ := List.any_eq_true.1 ha
        obtain ⟨j, x, hj, hx, hdx⟩ := HDD.out.2 d hd
        have he := sameR_eq hs
        subst he
        rw [ruleF_any] at hdx
        have hsub : ∀ s, ruleF r s = true → leftF L k s = false := fun s hs => by
          unfold leftF
          rw [Bool.not_eq_false', List.any_eq_true]
          refine ⟨x, List.mem_of_getElem? (i := j) (by rw [List.getElem?_take_of_lt hj]; exact hx), ?_⟩
          rw [← hdx]; exact hs
        refine ⟨?_, ?_⟩
        · rw [leftF_succ HRR.out]
          funext s
          cases h : ruleF r s
          · simp
          · rw [hsub s h]; rfl
        · rw [decF_eq HRR.out]
          funext s
          cases h : ruleF r s
          · simp
          · rw [hsub s h]; rfl)
      generalize hB : D.any (fun x => sameR x (anyR r)) = Bv at *
      clear hB
      go_wp2_with fail
      refine HCON.out.mono ?_
      rintro e w5 ⟨rfl, hb5⟩
      have HR5 := Lib.hid (HR4.out.below hb5)
      have HKA5 := Lib.hid (blk_below hb5 HKA.out)
      have HKB5 := Lib.hid (blk_below hb5 HKB.out)
      have HB5 := Lib.hid (HB4.out.trans (hb5.mono HB4.out.size))
      have hbs := HR5.out.kept.size
      have hnl := HNS.out
      have hml : ns.length ≤ 1099511627776 := by omega
      clear hb5 HR4 HKA HKB HB4 HCON hnl
      cases Bv with
      | true =>
        obtain ⟨hlf, hdf⟩ := HANY.out rfl
        have HLF := Lib.hid hlf
        have HDF := Lib.hid hdf
        clear hlf hdf HANY
        go_wp2_with (at_builtin; refine wpList_push2 (v := .slice Ao ns.length co) rfl _ _ 33 rfl 3 i0 _ 1 8 Tryz.underlying33 hif hz0 hz1 hz2 rfl (by decide) (by decide) [.int .i64 0] rfl rfl rfl HR5.out.out rfl (one_i64 _) hml hbs ?_; intro v6 w6 ho6 hg6 hm6; have HR6 := Lib.hid (HR5.out.pushOut (n := 0) ho6 hg6 hm6); obtain ⟨A6, c6, hv6, _⟩ := owns_form ho6; subst hv6; clear ho6 hg6 hm6)
        exact ⟨⟨k + 1, by go_num, by omega, n, τ, ns ++ [0], D, rfl, HR6, Lib.hid (by simp [HNS.out]), Lib.hid (HT.out.mono (by have := HM.out; omega) (by have := HM.out; omega)), Lib.hid (by rw [HLF.out]; exact HD.out), Lib.hid (den_snoc HDS.out HNS.out (by rw [HDF.out]; exact Den.zero HR6.out.sp.ok)), Lib.hid ⟨by have := HDD.out.1; omega, fun d hd => by obtain ⟨j, x, h1, h2, h3⟩ := HDD.out.2 d hd; exact ⟨j, x, by omega, h2, h3⟩⟩⟩, by simp only [intOf]; omega⟩
      | false =>
        clear HANY
        have a0 : w5.cell? ⟨wr.heap.size + 1, 0, none⟩ = some (.bool (anyR r).permit) := cell_of_row _ _ 0 _ _ (0, 0) HKB5.out
        have a1 : w5.cell? ⟨wr.heap.size + 1, 1, none⟩ = some (.int .i64 (anyR r).proto) := cell_of_row _ _ 1 _ _ (0, 0) HKB5.out
        have a2 : w5.cell? ⟨wr.heap.size + 1, 2, none⟩ = some (.int .u32 (anyR r).sa) := cell_of_row _ _ 2 _ _ (0, 0) HKB5.out
        have a3 : w5.cell? ⟨wr.heap.size + 1, 3, none⟩ = some (.int .i64 (anyR r).sn) := cell_of_row _ _ 3 _ _ (0, 0) HKB5.out
        have a4 : w5.cell? ⟨wr.heap.size + 1, 4, none⟩ = some (.int .u32 (anyR r).da) := cell_of_row _ _ 4 _ _ (0, 0) HKB5.out
        have a5 : w5.cell? ⟨wr.heap.size + 1, 5, none⟩ = some (.int .i64 (anyR r).dn) := cell_of_row _ _ 5 _ _ (0, 0) HKB5.out
        have a6 : w5.cell? ⟨wr.heap.size + 1, 6, none⟩ = some (.int .u32 (anyR r).sl) := cell_of_row _ _ 6 _ _ (0, 0) HKB5.out
        have a7 : w5.cell? ⟨wr.heap.size + 1, 7, none⟩ = some (.int .u32 (anyR r).sh) := cell_of_row _ _ 7 _ _ (0, 0) HKB5.out
        have a8 : w5.cell? ⟨wr.heap.size + 1, 8, none⟩ = some (.int .u32 (anyR r).dl) := cell_of_row _ _ 8 _ _ (0, 0) HKB5.out
        have a9 : w5.cell? ⟨wr.heap.size + 1, 9, none⟩ = some (.int .u32 (anyR r).dh) := cell_of_row _ _ 9 _ _ (0, 0) HKB5.out
        have hdl : D.length ≤ 1099511627776 := by have := HDD.out.1; omega
        have HLTS := Lib.hid (fun g hg => (HR.out.seen.lt g hg).2)
        go_upto_region 17 with (at_builtin; refine wpList_push2 (v := .slice As D.length cs) rfl _ _ 22 rfl 43 j0 _ 10 64 Tryz.underlying22 jif jz0 jz1 jz2 rfl (by decide) (by decide) (anyR r).enc rfl rfl rfl HR5.out.seen rfl (by intro u hu; simp only [RuleV.enc, List.mem_cons, List.not_mem_nil, or_false] at hu; rcases hu with rfl | rfl | rfl | rfl | rfl | rfl | rfl | rfl | rfl | rfl <;> rfl) hdl hbs ?_; intro v6 w6 ho6 hg6 hm6; have HR6 := Lib.hid (HR5.out.pushSeen ho6 hg6 hm6); have HKA6 := Lib.hid ((hg6.block _ (lt_of_block HKA5.out) (fun e => by have := HLTS.out _ e.symm; omega)).trans HKA5.out); obtain ⟨A6, c6, hv6, _⟩ := owns_form ho6; subst hv6; clear ho6 hg6 hm6)
        clear a0 a1 a2 a3 a4 a5 a6 a7 a8 a9 HKA5 HKB5 HR5 HLTS hdl hbs
        have e0 : w6.cell? ⟨wr.heap.size, 0, none⟩ = some (.bool r.permit) := cell_of_row _ _ 0 _ _ (0, 0) HKA6.out
        have e1 : w6.cell? ⟨wr.heap.size, 1, none⟩ = some (.int .i64 r.proto) := cell_of_row _ _ 1 _ _ (0, 0) HKA6.out
        have e2 : w6.cell? ⟨wr.heap.size, 2, none⟩ = some (.int .u32 r.sa) := cell_of_row _ _ 2 _ _ (0, 0) HKA6.out
        have e3 : w6.cell? ⟨wr.heap.size, 3, none⟩ = some (.int .i64 r.sn) := cell_of_row _ _ 3 _ _ (0, 0) HKA6.out
        have e4 : w6.cell? ⟨wr.heap.size, 4, none⟩ = some (.int .u32 r.da) := cell_of_row _ _ 4 _ _ (0, 0) HKA6.out
        have e5 : w6.cell? ⟨wr.heap.size, 5, none⟩ = some (.int .i64 r.dn) := cell_of_row _ _ 5 _ _ (0, 0) HKA6.out
        have e6 : w6.cell? ⟨wr.heap.size, 6, none⟩ = some (.int .u32 r.sl) := cell_of_row _ _ 6 _ _ (0, 0) HKA6.out
        have e7 : w6.cell? ⟨wr.heap.size, 7, none⟩ = some (.int .u32 r.sh) := cell_of_row _ _ 7 _ _ (0, 0) HKA6.out
        have e8 : w6.cell? ⟨wr.heap.size, 8, none⟩ = some (.int .u32 r.dl) := cell_of_row _ _ 8 _ _ (0, 0) HKA6.out
        have e9 : w6.cell? ⟨wr.heap.size, 9, none⟩ = some (.int .u32 r.dh) := cell_of_row _ _ 9 _ _ (0, 0) HKA6.out
        have hnl := HT.out.nl
        have hm := HM.out
        have HRU := Lib.hid (rule_yes HR6.out.sp r HOK.out.1 K HOK.out.2.1 (by omega))
        clear hnl hm HKA6
        go_upto_region 18 with ((with_reducible refine HRU.out.mono ?_); rintro e w7 hr7; obtain ⟨q7, c7, he7⟩ := hr7.form; have HR7 := Lib.hid hr7; subst he7; clear hr7)
        clear e0 e1 e2 e3 e4 e5 e6 e7 e8 e9
        rcases HR7.out.two with ⟨rfl, rfl, hlt7, τ7, hs7, ht7⟩ | ⟨r7, τ7, rfl, rfl, hs7, ht7, hd7⟩
        · have HFIN := Lib.hid (RulesRes.full (L := L) (HK2.out.trans (HR6.out.kept.trans HR7.out.1)) rfl (by have := HT.out.hl; have := HM.out; omega) hs7 ((HT.out.trans ht7).mono (show k * (6080 + 7 * K) + 5 * (1216 + K) ≤ L.length * (6080 + 7 * K) by have := HM.out; omega) (show k * (6080 + 7 * K) + 5 * (1216 + K) ≤ L.length * (6080 + 7 * K) by have := HM.out; omega)))
          clear hlt7 hs7 ht7
          go_wp2
          go_ret2
          exact HFIN.out
        · have HS7 := Lib.hid (HR6.out.space HR7.out.1 hs7)
          have HT7 := Lib.hid (HT.out.trans ht7)
          have HD7 := Lib.hid hd7
          have HL7 := Lib.hid (HD.out.to ht7 HR6.out.sp.ok hs7.ok)
          have HDS7 : Hid (∀ i m, ns[i]? = some m → Den τ7 m (decF L i)) := Lib.hid fun i m hi => (HDS.out i m hi).to ht7 HR6.out.sp.ok hs7.ok
          have hnl := HT7.out.nl
          have hm := HM.out
          have hde : decF L k = fun s => leftF L k s && ruleF r s := decF_eq HRR.out
          have hwd := HOK.out.2.2.1
          rw [hde] at hwd
          have HAN := Lib.hid (show Calls Tryz.prog 14 #[.pointer (some ⟨S, 0, none⟩), .int .i64 n, .int .i64 r7] w7 (SpRes w7 B S km A Mo τ7 (fun s => leftF L k s && ruleF r s) K K) from relAnd_yes hs7 HL7.out hd7 (leftF_set L k) (ruleK_set r _) (a := K) (b := K) (Grow.wid hs7.ok.wf.two hwd) (by omega))
          have HDE := Lib.hid hde
          clear hs7 ht7 hd7 HR7 HRU hnl hm hde hwd
          go_upto_region 21 with ((with_reducible refine HAN.out.mono ?_); rintro e w8 hr8; obtain ⟨q8, c8, he8⟩ := hr8.form; have HR8 := Lib.hid hr8; subst he8; clear hr8)
          rcases HR8.out.two with ⟨rfl, rfl, hlt8, τ8, hs8, ht8⟩ | ⟨r8, τ8, rfl, rfl, hs8, ht8, hd8⟩
          · have HFIN := Lib.hid (RulesRes.full (L := L) (HK2.out.trans (HS7.out.kept.trans HR8.out.1)) rfl (by have := HT7.out.hl; have := HM.out; omega) hs8 ((HT7.out.trans ht8).mono (show k * (6080 + 7 * K) + 5 * (1216 + K) + K ≤ L.length * (6080 + 7 * K) by have := HM.out; omega) (show k * (6080 + 7 * K) + 5 * (1216 + K) + K ≤ L.length * (6080 + 7 * K) by have := HM.out; omega)))
            clear hlt8 hs8 ht8
            go_wp2
            go_ret2
            exact HFIN.out
          · have HS8 := Lib.hid (HS7.out.space HR8.out.1 hs8)
            have HT8 := Lib.hid (HT7.out.trans ht8)
            have HD8 : Hid (Den τ8 r8 (decF L k)) := Lib.hid (by rw [HDE.out]; exact hd8)
            have HX8 := Lib.hid (HD7.out.to ht8 HS7.out.sp.ok hs8.ok)
            have HL8 := Lib.hid (HL7.out.to ht8 HS7.out.sp.ok hs8.ok)
            have HDS8 : Hid (∀ i m, ns[i]? = some m → Den τ8 m (decF L i)) := Lib.hid fun i m hi => (HDS7.out i m hi).to ht8 HS7.out.sp.ok hs8.ok
            have hnl := HT8.out.nl
            have hm := HM.out
            have hde : leftF L (k + 1) = fun s => leftF L k s && !ruleF r s := leftF_succ HRR.out
            have hwd := HOK.out.2.2.2
            rw [hde] at hwd
            have HLE := Lib.hid (show Calls Tryz.prog 32 #[.pointer (some ⟨S, 0, none⟩), .int .i64 n, .int .i64 r7] w8 (SpRes w8 B S km A Mo τ8 (fun s => leftF L k s && !ruleF r s) K K) from relLess_yes hs8 HL8.out HX8.out (leftF_set L k) (ruleK_set r _) (a := K) (b := K) (Grow.wid hs8.ok.wf.two hwd) (by omega))
            have HDE2 := Lib.hid hde
            clear hs8 ht8 hd8 HR8 HAN hnl hm hde hwd HDS7 HL7 HD7 HS7 HT7 HDE
            go_upto_region 24 with ((with_reducible refine HLE.out.mono ?_); rintro e w9 hr9; obtain ⟨q9, c9, he9⟩ := hr9.form; have HR9 := Lib.hid hr9; subst he9; clear hr9)
            rcases HR9.out.two with ⟨rfl, rfl, hlt9, τ9, hs9, ht9⟩ | ⟨r9, τ9, rfl, rfl, hs9, ht9, hd9⟩
            · have HFIN := Lib.hid (RulesRes.full (L := L) (HK2.out.trans (HS8.out.kept.trans HR9.out.1)) rfl (by have := HT8.out.hl; have := HM.out; omega) hs9 ((HT8.out.trans ht9).mono (show k * (6080 + 7 * K) + 5 * (1216 + K) + K + K ≤ L.length * (6080 + 7 * K) by have := HM.out; omega) (show k * (6080 + 7 * K) + 5 * (1216 + K) + K + K ≤ L.length * (6080 + 7 * K) by have := HM.out; omega)))
              clear hlt9 hs9 ht9
              go_wp2
              go_ret2
              exact HFIN.out
            · have HS9 := Lib.hid (HS8.out.space HR9.out.1 hs9)
              have HT9 := Lib.hid ((HT8.out.trans ht9).mono (show k * (6080 + 7 * K) + 5 * (1216 + K) + K + K ≤ (k + 1) * (6080 + 7 * K) by have := HM.out; omega) (show k * (6080 + 7 * K) + 5 * (1216 + K) + K + K ≤ (k + 1) * (6080 + 7 * K) by have := HM.out; omega))
              have HD9 : Hid (Den τ9 r9 (leftF L (k + 1))) := Lib.hid (by rw [HDE2.out]; exact hd9)
              have HX9 := Lib.hid (HD8.out.to ht9 HS8.out.sp.ok hs9.ok)
              have HDS9 : Hid (∀ i m, ns[i]? = some m → Den τ9 m (decF L i)) := Lib.hid fun i m hi => (HDS8.out i m hi).to ht9 HS8.out.sp.ok hs9.ok
              have hbs := HS9.out.kept.size
              clear hs9 ht9 hd9 HR9 HLE HS8 HT8 HD8 HX8 HL8 HDS8 HDE2
              go_wp2_with (at_builtin; refine wpList_push2 (v := .slice Ao ns.length co) rfl _ _ 33 rfl 3 i0 _ 1 8 Tryz.underlying33 hif hz0 hz1 hz2 rfl (by decide) (by decide) [.int .i64 r8] rfl rfl rfl HS9.out.out rfl (one_i64 _) hml hbs ?_; intro v10 w10 ho10 hg10 hm10; have HR10 := Lib.hid (HS9.out.pushOut (n := r8) ho10 hg10 hm10); obtain ⟨A10, c10, hv10, _⟩ := owns_form ho10; subst hv10; clear ho10 hg10 hm10)
              exact ⟨⟨k + 1, by go_num, by omega, r9, τ9, ns ++ [r8], D ++ [anyR r], rfl, HR10, Lib.hid (by simp [HNS.out]), HT9, HD9, Lib.hid (den_snoc HDS9.out HNS.out HX9.out), Lib.hid ⟨by have := HDD.out.1; simp; omega, fun d hd => by
                rcases List.mem_append.1 hd with hd | hd
                · obtain ⟨j, x, h1, h2, h3⟩ := HDD.out.2 d hd
                  exact ⟨j, x, by omega, h2, h3⟩
                · obtain rfl := List.mem_singleton.1 hd
                  exact ⟨k, r, by omega, HRR.out, ruleF_any r⟩⟩⟩, by simp only [intOf]; omega⟩
    · obtain rfl : k = L.length := by omega
      have hI : ¬ (L.length : Int) < (L.length : Int) := by omega
      have HFIN : Hid (RulesRes w B S km A Mo σ L (L.length * (6080 + 7 * K)) (.returned (.tuple #[.slice Ao ns.length co, .int .i64 0])) wr) := Lib.hid ⟨HK2.out.trans HR.out.kept, .inr ⟨_, ns, τ, rfl, HR.out.sp, HT.out, HNS.out, HDS.out, owns_base HR.out.out HSZ.out, HR.out.outf⟩⟩
      go_wp2
      go_ret2
      exact HFIN.out
end
end Go.Proofs.YtbahehmfhjkgeaaGreat

/-
  What a filter permits, as a set; the refusals.
-/
namespace Go.Proofs.YtbahehmfhjkgeaaGreat
open Go Go.RowKit Go.ChangeMaps Go.MapKept Go.Maps Go.Lib Go.Sort

def permitAt (L : List RuleV) (k : Nat) : Bool := (L[k]?.map (·.permit)).getD false
/-- What the first k rules permit. -/
def setF (L : List RuleV) : Nat → Fun
  | 0 => fun _ => false
  | k + 1 => if permitAt L k then fun s => setF L k s || decF L k s else setF L k
theorem decF_set' (L : List RuleV) (k : Nat) : SetF (decF L k) := by
  cases h : L[k]? with
  | none =>
    have e : decF L k = fun _ => false := funext fun s => by unfold decF ruleAt; rw [h]; simp
    rw [e]
    exact SetF.const false
  | some r => exact decF_set h
theorem setF_set (L : List RuleV) : ∀ k, SetF (setF L k)
  | 0 => SetF.const false
  | k + 1 => by
    unfold setF
    split
    · exact (setF_set L k).op2 (fun x y => x || y) (decF_set' L k)
    · exact setF_set L k
section
variable {w : World} {B S km : Nat} {A : Blks} {Mo : Nat} {σ : Sg}
set_option maxRecDepth 100000
set_option maxHeartbeats 8000000
end
end Go.Proofs.YtbahehmfhjkgeaaGreat

/-
  Rules without bounds; nobody's space.
-/
namespace Go.Proofs.YtbahehmfhjkgeaaGreat
open Go Go.RowKit Go.ChangeMaps Go.MapKept Go.Maps Go.Lib Go.Sort

theorem reachF_zero (a n : Nat) : ∀ m, reachF a n 0 true m = fun _ => true
  | 0 => rfl
  | m + 1 => by
    unfold reachF stepF
    rw [reachF_zero a n m]
    funext s
    simp
theorem reachF_top (a n k : Nat) : ∀ m, m ≤ k → reachF a n (2 ^ k - 1) false m = fun _ => true
  | 0, _ => rfl
  | m + 1, hm => by
    have hb : (2 ^ k - 1).testBit m = true := by rw [Nat.testBit_two_pow_sub_one]; simp; omega
    unfold reachF stepF
    rw [reachF_top a n k m (by omega), hb]
    funext s
    simp
theorem spanF_all (a n k : Nat) (h : n ≤ k) : spanF a n 0 (2 ^ k - 1) = fun _ => true := by
  unfold spanF
  rw [reachF_zero, reachF_top a n k n h]
  rfl
/-- The rule without bounds, of a protocol or of any. -/
def wideR (permit : Bool) (p : Int) (hp : -1 ≤ p ∧ p ≤ 255) : RuleV := ⟨permit, p, 0, 0, 0, 0, 0, 65535, 0, 65535, by omega, by omega, by omega, by omega, by omega, by omega, by omega⟩
theorem wide_ask (b : Bool) (p : Int) (hp : -1 ≤ p ∧ p ≤ 255) : ∀ k, k < 4 → askF (wideR b p hp) k = fun _ => true := by
  intro k hk
  obtain rfl | rfl | rfl | rfl : k = 0 ∨ k = 1 ∨ k = 2 ∨ k = 3 := by omega
  · rfl
  · rfl
  · exact spanF_all 72 16 16 (Nat.le_refl _)
  · exact spanF_all 88 16 16 (Nat.le_refl _)
theorem wide_ruleK (b : Bool) (p : Int) (hp : -1 ≤ p ∧ p ≤ 255) : ∀ k, k ≤ 4 → ruleK (wideR b p hp) k = fun _ => true
  | 0, _ => rfl
  | k + 1, hk => by
    unfold ruleK
    rw [wide_ruleK b p hp k (by omega), wide_ask b p hp k (by omega)]
    rfl
theorem wide_five (b : Bool) (p : Int) (hp : -1 ≤ p ∧ p ≤ 255) : ruleK (wideR b p hp) 5 = spanF 64 8 p.toNat p.toNat := by
  show (fun s => ruleK (wideR b p hp) 4 s && askF (wideR b p hp) 4 s) = _
  rw [wide_ruleK b p hp 4 (Nat.le_refl _)]
  rfl
theorem wide_ruleF (b : Bool) (p : Int) (hp : -1 ≤ p ∧ p ≤ 255) : ruleF (wideR b p hp) = if 0 ≤ p then spanF 64 8 p.toNat p.toNat else fun _ => true := by
  unfold ruleF asksN
  show ruleK _ (if 0 ≤ p then 5 else 4) = _
  split
  · exact wide_five b p hp
  · exact wide_ruleK b p hp 4 (Nat.le_refl _)
theorem Wid.const (b : Bool) : Wid (fun _ => b) 0 := (Wid.seg (a := 0) (b := 0) (k := 1) (Hangs.const b 0 0) (by omega) (fun v => CutLe.const b v)).mono (by omega)
theorem wide_wid (b : Bool) (p : Int) (hp : -1 ≤ p ∧ p ≤ 255) : ∀ j, j ≤ 5 → Wid (ruleK (wideR b p hp) j) 576 := by
  intro j hj
  rcases Nat.lt_or_ge j 5 with h | h
  · rw [wide_ruleK b p hp j (by omega)]
    exact (Wid.const true).mono (by omega)
  · obtain rfl : j = 5 := by omega
    rw [wide_five b p hp]
    exact spanF_wid 64 8 _ _ (by omega) (by omega)
theorem wide_may (b : Bool) (p : Int) (hp : -1 ≤ p ∧ p ≤ 255) : mayB (wideR b p hp) = true := by
  unfold mayB
  have h1 : chk 0 0 = 0 := by decide
  show (decide (-1 ≤ p) && decide (p ≤ 255) && decide (chk 0 0 = 0) && decide (chk 0 0 = 0) && portsB 0 65535 && portsB 0 65535) = true
  rw [h1]
  simp [portsB, hp.1, hp.2]
theorem RdF.none (A : Blks) (km : Nat) (w : World) (k : Nat) : RdF A km w k (.slice none 0 0) 0 [] := ⟨_, 0, rfl, Nat.le_refl _, by simp, fun h => absurd h (by omega)⟩
section
set_option maxRecDepth 100000
set_option maxHeartbeats 2000000
end
end Go.Proofs.YtbahehmfhjkgeaaGreat

/-
  A new space; what lies below a space's blocks stays; filter.Set at nobody's space; the rules of a closed law.
-/
namespace Go.Proofs.YtbahehmfhjkgeaaGreat
open Go Go.RowKit Go.ChangeMaps Go.MapKept Go.Maps Go.Lib Go.Sort

def newSg : Sg := ⟨N0, [], [0, 1], []⟩
theorem newSg_ok (Mo : Nat) : SgOk Mo newSg := by
  refine ⟨N0_wf, ⟨List.nodup_nil, fun i hi => absurd hi (by simp [newSg])⟩, fun i hi => absurd hi (by simp [newSg]), fun g hg => ?_, by simp [newSg], by simp [newSg], fun p hp => absurd hp (by simp [newSg]), Nat.zero_le _, by decide⟩
  have h2 : g = 0 ∨ g = 1 := by simpa [newSg] using hg
  rcases h2 with rfl | rfl
  · exact ⟨by decide, .inl (by omega), Hangs.const false 0 208⟩
  · exact ⟨by decide, .inl (by omega), Hangs.const true 0 208⟩
section
variable {w w' : World} {B S km : Nat} {A : Blks} {Mo : Nat} {σ : Sg}
theorem SpAt.newOk (h : SpAt w B S km A Mo N0 [] [0, 1] []) : SpOk w B S km A Mo newSg := ⟨h, newSg_ok Mo⟩
theorem SpOk.foreign_low (h : SpOk w B S km A Mo σ) {k : Nat} (hk : k < B) : Foreign A w k := by
  obtain ⟨nv, ha⟩ := h.sp.ar
  have hb : B ≤ A.a := ha.base A.a (by simp [Blks.list])
  have hl := lt_of_block ha.cells
  refine ⟨by omega, fun hm => by have := ha.base k hm; omega, fun v hv e => ?_⟩
  rw [ha.cell2] at hv
  injection hv with hv
  subst hv
  have := (ha.row.lt k e).1
  omega
theorem SpOk.low (h : SpOk w B S km A Mo σ) (hB : B ≤ km) (hk : KeptS A km w w') : Below B w w' :=
  ⟨hk.os, hk.tape, hk.output, hk.size, fun k hlt => (hk.same k (h.foreign_low hlt) (by omega)).1⟩
end
section
set_option maxRecDepth 100000
set_option maxHeartbeats 2000000
end
/-- The rule that permits all. -/
def openR : RuleV := wideR true (-1) (by omega)
theorem openR_F : ruleF openR = fun _ => true := by
  unfold openR
  rw [wide_ruleF]
  rfl
theorem openR_may : mayB openR = true := wide_may true (-1) (by omega)
end Go.Proofs.YtbahehmfhjkgeaaGreat

/-
  The sets of the linter's small example (plain).
-/
namespace Go.Proofs.YtbahehmfhjkgeaaGreat
open Go Go.RowKit Go.ChangeMaps Go.MapKept Go.Maps Go.Lib Go.Sort

/-- A function of the headers' bits with c cuts at most at each variable. -/
structure WD (F : Fun) (c : Nat) : Prop where
  h : Hangs F 0 208
  c : ∀ v, CutLe F v c
theorem WD.wid {F : Fun} {c K : Nat} (h : WD F c) (hc : 208 * c ≤ K) : Wid F K := (Wid.all h.h h.c).mono hc
theorem WD.op2 {F G : Fun} {a b : Nat} (o : Bool → Bool → Bool) (f : WD F a) (g : WD G b) : WD (fun s => o (F s) (G s)) (a * b) := ⟨f.h.op2 o g.h, fun v => (f.c v).op2 o (g.c v)⟩
theorem WD.const (b : Bool) : WD (fun _ => b) 1 := ⟨Hangs.const b 0 208, fun v => CutLe.const b v⟩
theorem WD.span (a n lo hi : Nat) (h : a + n ≤ 104) : WD (spanF a n lo hi) 9 := ⟨spanF_hang a n lo hi h, fun u => spanF_cut a n lo hi u⟩
def ln6 : RuleV := wideR true 6 (by omega)
def lnA : RuleV := wideR false (-1) (by omega)
def ln17 : RuleV := wideR true 17 (by omega)
def lnL : List RuleV := [ln6, lnA, ln17]
theorem ln6_F : ruleF ln6 = spanF 64 8 6 6 := by unfold ln6; rw [wide_ruleF]; rfl
theorem lnA_F : ruleF lnA = fun _ => true := by unfold lnA; rw [wide_ruleF]; rfl
theorem ln17_F : ruleF ln17 = spanF 64 8 17 17 := by unfold ln17; rw [wide_ruleF]; rfl
theorem ln_left0 : leftF lnL 0 = fun _ => true := rfl
theorem ln_left1 : leftF lnL 1 = fun s => true && !spanF 64 8 6 6 s := by rw [leftF_succ (show lnL[0]? = some ln6 from rfl), ln6_F, ln_left0]
theorem ln_left2 : leftF lnL 2 = fun s => (true && !spanF 64 8 6 6 s) && !true := by rw [leftF_succ (show lnL[1]? = some lnA from rfl), lnA_F, ln_left1]
theorem ln_left3 : leftF lnL 3 = fun s => ((true && !spanF 64 8 6 6 s) && !true) && !spanF 64 8 17 17 s := by rw [leftF_succ (show lnL[2]? = some ln17 from rfl), ln17_F, ln_left2]
theorem ln_dec0 : decF lnL 0 = fun s => true && spanF 64 8 6 6 s := by rw [decF_eq (show lnL[0]? = some ln6 from rfl), ln6_F, ln_left0]
theorem ln_dec1 : decF lnL 1 = fun s => (true && !spanF 64 8 6 6 s) && true := by rw [decF_eq (show lnL[1]? = some lnA from rfl), lnA_F, ln_left1]
theorem ln_dec2 : decF lnL 2 = fun s => ((true && !spanF 64 8 6 6 s) && !true) && spanF 64 8 17 17 s := by rw [decF_eq (show lnL[2]? = some ln17 from rfl), ln17_F, ln_left2]
theorem wdS (p : Nat) : WD (spanF 64 8 p p) 9 := WD.span 64 8 p p (by omega)
theorem wd1 : WD (fun s => true && !spanF 64 8 6 6 s) 9 := (WD.const true).op2 (fun x y => x && !y) (wdS 6)
theorem wd2 : WD (fun s => (true && !spanF 64 8 6 6 s) && !true) 9 := wd1.op2 (fun x y => x && !y) (WD.const true)
theorem wd3 : WD (fun s => ((true && !spanF 64 8 6 6 s) && !true) && !spanF 64 8 17 17 s) 81 := wd2.op2 (fun x y => x && !y) (wdS 17)
theorem we0 : WD (fun s => true && spanF 64 8 6 6 s) 9 := (WD.const true).op2 (fun x y => x && y) (wdS 6)
theorem we1 : WD (fun s => (true && !spanF 64 8 6 6 s) && true) 9 := wd1.op2 (fun x y => x && y) (WD.const true)
theorem we2 : WD (fun s => ((true && !spanF 64 8 6 6 s) && !true) && spanF 64 8 17 17 s) 81 := wd2.op2 (fun x y => x && y) (wdS 17)
theorem ln_filt : FiltW lnL 16848 := by
  intro k r hr
  have hk : k < 3 := (List.getElem?_eq_some_iff.1 hr).1
  have hw : ∀ (b : Bool) (p : Int) (hp : -1 ≤ p ∧ p ≤ 255) (j : Nat), j ≤ 5 → Wid (ruleK (wideR b p hp) j) 16848 := fun b p hp j hj => (wide_wid b p hp j hj).mono (by omega)
  obtain rfl | rfl | rfl : k = 0 ∨ k = 1 ∨ k = 2 := by omega
  · obtain rfl : ln6 = r := by injection hr
    exact ⟨hw _ _ _, by rw [ln_dec0]; exact we0.wid (by omega), by rw [ln_left1]; exact wd1.wid (by omega)⟩
  · obtain rfl : lnA = r := by injection hr
    exact ⟨hw _ _ _, by rw [ln_dec1]; exact we1.wid (by omega), by rw [ln_left2]; exact wd2.wid (by omega)⟩
  · obtain rfl : ln17 = r := by injection hr
    exact ⟨hw _ _ _, by rw [ln_dec2]; exact we2.wid (by omega), by rw [ln_left3]; exact wd3.wid (by omega)⟩
theorem ln_e : filtE lnL = 0 := by
  unfold lnL ln6 lnA ln17
  decide +kernel
theorem ln_dec0_ne : decF lnL 0 ≠ fun _ => false := by
  rw [ln_dec0]
  intro h
  have := congrFun h (fun v => v == 138 || v == 140)
  exact absurd this (by decide +kernel)
theorem ln_dec1_ne : decF lnL 1 ≠ fun _ => false := by
  rw [ln_dec1]
  intro h
  have := congrFun h (fun _ => false)
  exact absurd this (by decide +kernel)
theorem ln_dec2_eq : decF lnL 2 = fun _ => false := by
  rw [ln_dec2]
  funext s
  simp
end Go.Proofs.YtbahehmfhjkgeaaGreat

/-
  The rules that decide nothing: lint.Rules where there is room.
-/
namespace Go.Proofs.YtbahehmfhjkgeaaGreat
open Go Go.RowKit Go.ChangeMaps Go.MapKept Go.Maps Go.Lib Go.Sort

/-- Does a function hold nowhere? -/
noncomputable def zF (F : Fun) : Bool := @decide (∀ s, F s = false) (Classical.propDecidable _)
theorem zF_iff (F : Fun) : zF F = true ↔ ∀ s, F s = false := by simp [zF]
/-- The rules up to the m-th that decide nothing. -/
noncomputable def zerosP (L : List RuleV) (m : Nat) : List Nat := (List.range m).filter fun i => zF (decF L i)
theorem zerosP_succ (L : List RuleV) (m : Nat) : zerosP L (m + 1) = if zF (decF L m) then zerosP L m ++ [m] else zerosP L m := by
  unfold zerosP
  rw [List.range_succ, List.filter_append]
  by_cases h : zF (decF L m) = true
  · rw [if_pos h]; simp [h]
  · rw [if_neg h]; simp [h]
theorem zerosP_len (L : List RuleV) (m : Nat) : (zerosP L m).length ≤ m := by
  have := List.length_filter_le (fun i => zF (decF L i)) (List.range m)
  rw [List.length_range] at this
  exact this
theorem ncl_app (a b : List Nat) : ncl (a ++ b) = ncl a ++ ncl b := by simp [ncl]
theorem Den.z {Mo : Nat} {τ : Sg} {n : Nat} {F : Fun} (h : Den τ n F) (o : SgOk Mo τ) : zF F = decide (n = 0) := by
  by_cases hn : n = 0
  · subst hn
    rw [show zF F = true from (zF_iff F).2 fun s => by rw [← h.2 s]; rfl]
    simp
  · rw [decide_eq_false hn]
    cases hz : zF F with
    | false => rfl
    | true =>
      have hF : F = fun _ => false := funext ((zF_iff F).1 hz)
      subst hF
      exact absurd (h.same (Den.zero o) o) hn
section
set_option maxRecDepth 100000
set_option maxHeartbeats 4000000
theorem lintRules_any (w : World) (nm : ByteArray) (L : List RuleV) (vL : Value) (hL : Rd w w.heap.size 10 vL L.length (rcells L)) (he : filtE L = 0) (K : Nat) (hK : FiltW L K) (hr : L.length * (6080 + 7 * K) ≤ 4194304) :
    Calls Tryz.prog 16 #[.agg #[.string nm, vL]] w fun e w' => ∃ v, e = .returned (.tuple #[v, .int .i64 0]) ∧ w'.ownsRow w.heap.size 3 1 v (zerosP L L.length).length (ncl (zerosP L L.length)) ∧ Below w.heap.size w w' := by
  obtain ⟨i0, hif, hz0, hz1, hz2⟩ := info_parts Tryz.infoInt
  obtain ⟨PL, cL, rfl, _⟩ := hL.form
  have hlen : L.length ≤ 256 := (rule_may he).1
  have hbw := below1 w (.cells #[.string nm, .slice PL L.length cL] 24)
  have hkw := blk1 w (.cells #[.string nm, .slice PL L.length cL] 24)
  have HL := Lib.hid (hL.below hbw)
  have HB0 := Lib.hid hbw
  have HK0 := Lib.hid hkw
  have HE := Lib.hid (And.intro he (And.intro hK hr))
  clear hL hbw hkw he hK hr
  go_enter Tryz.func16, Tryz.ntmps16
  go_upto_region 1 with fail
  generalize w.alloc (.cells #[.string nm, .slice PL L.length cL] 24) = w0 at *
  have HNEW := Lib.hid (show Calls Tryz.prog 8 #[.int .i64 4194304] w0 (fun e w' => ∃ (S km : Nat) (A : Blks), e = .returned (.tuple #[.pointer (some ⟨S, 0, none⟩), .int .i64 0]) ∧ SpAt w' w0.heap.size S km A 4194304 N0 [] [0, 1] [] ∧ Below w0.heap.size w0 w' ∧ w0.heap.size ≤ S ∧ w0.heap.size ≤ km) from relNew_any w0 4194304 (Nat.le_refl _))
  go_upto_region 2 with ((with_reducible refine HNEW.out.mono ?_); rintro e w1 ⟨S, km, A, rfl, hs1, hb1, hS1, hkm1⟩; have HS1 := Lib.hid hs1.newOk; have HB1 := Lib.hid hb1; have HLO := Lib.hid (And.intro hS1 hkm1); clear hs1 hb1 hS1 hkm1)
  clear HNEW
  have b0 : w1.cell? ⟨w.heap.size, 0, none⟩ = some (.string nm) := cell_of_row _ _ 0 _ _ (0, 0) (blk_below HB1.out HK0.out)
  have b1 : w1.cell? ⟨w.heap.size, 1, none⟩ = some (.slice PL L.length cL) := cell_of_row _ _ 1 _ _ (0, 0) (blk_below HB1.out HK0.out)
  have hrf : RdF A km w1 10 (.slice PL L.length cL) L.length (rcells L) := by
    obtain ⟨Q, c', hv, hc, hl10, hp⟩ := HL.out.below (HB1.out.mono HB0.out.size)
    injection hv with e1 e2 e3
    subst e1 e3
    refine ⟨PL, cL, rfl, hc, hl10, fun h0 => ?_⟩
    obtain ⟨b, off, hA, hlt, hcell⟩ := hp h0
    have hb0 : b < w0.heap.size := Nat.lt_of_lt_of_le hlt HB0.out.size
    exact ⟨b, off, hA, HS1.out.foreign_low hb0, by have := HLO.out.2; omega, hcell⟩
  have HRU := Lib.hid (rules_yes HS1.out nm L _ hrf HE.out.1 K HE.out.2.1 (by have := HE.out.2.2; show 2 + _ ≤ _; omega))
  clear hrf
  go_upto_region 3 with ((with_reducible refine HRU.out.mono ?_); rintro e w2 hr; rcases hr with ⟨hk2, ⟨_, h2, _⟩ | ⟨vN, ns, τ, rfl, hs2, ht2, hln, hden, hown, hof⟩⟩; exact absurd h2 (by have := HE.out.2.2; show ¬ 4194304 < 0 + _; omega); obtain ⟨AN, cN, hvN, _⟩ := owns_form hown; subst hvN; have HB2 := Lib.hid (HB1.out.trans (HS1.out.low HLO.out.2 hk2)); have HS2 := Lib.hid hs2; have HDN := Lib.hid hden; have HON := Lib.hid hown; have HLN := Lib.hid hln; clear hk2 hs2 ht2 hden hown hof hln)
  clear b0 b1 HRU
  have hn256 : ns.length ≤ 256 := by have := HLN.out; omega
  go_wp2
  go_loopw [8, 26] (fun r i wr => ∃ m : Nat, i = .int .i64 m ∧ m ≤ ns.length ∧ Hid (wr.ownsRow w2.heap.size 3 1 r (zerosP L m).length (ncl (zerosP L m))) ∧ Hid (Below w2.heap.size w2 wr)) (fun _ i _ => ns.length - (intOf i).toNat)
  case atStart => exact ⟨0, rfl, by omega, Lib.hid (World.ownsRow_nil _ _ _ _), Lib.hid (Below.refl _ _)⟩
  case round =>
    obtain ⟨m, rfl, hm, HO, HB⟩ := hrel
    obtain ⟨Ar, cr, hr, _⟩ := owns_form HO.out
    subst hr
    by_cases hlt : m < ns.length
    · have hI : (m : Int) < (ns.length : Int) := by omega
      obtain ⟨q, hq⟩ : ∃ q, ns[m]? = some q := ⟨_, List.getElem?_eq_getElem hlt⟩
      obtain ⟨b, off, c', hv, _, hbB, hcell⟩ := (Rd.of_own HON.out).pos (by omega)
      injection hv with hv1 hvl hv3
      subst hv1 hv3
      clear hvl
      have c0 : wr.cell? ⟨b, off + m, none⟩ = some (.int .i64 (q : Int)) := (HB.out.cell (p := ⟨b, off + m, none⟩) hbB).trans (hcell m _ (by simp [ncl, hq]))
      have HZ := Lib.hid ((HDN.out m q hq).z HS2.out.ok)
      have hbs := HB.out.size
      have hzl : (zerosP L m).length ≤ 1099511627776 := by have := zerosP_len L m; omega
      clear hcell hq
      by_cases hq0 : q = 0
      · subst hq0
        have HZ2 : Hid (zerosP L (m + 1) = zerosP L m ++ [m]) := Lib.hid (by rw [zerosP_succ, HZ.out]; rfl)
        go_wp2_with (at_builtin; refine wpList_push2 (v := .slice Ar (zerosP L m).length cr) rfl _ _ 33 rfl 3 i0 _ 1 8 Tryz.underlying33 hif hz0 hz1 hz2 rfl (by decide) (by decide) [.int .i64 m] rfl rfl rfl HO.out rfl (one_i64 _) hzl hbs ?_; intro v3 w3 hown3 hg3 hm3; have HO3 := Lib.hid hown3; have HB3 := Lib.hid (below_grown HB.out hbs hg3 (fun g hg => (HO.out.lt g hg).1)); clear hown3 hg3 hm3)
        exact ⟨⟨m + 1, by go_num, by omega, Lib.hid (by rw [HZ2.out, List.length_append, ncl_app]; exact HO3.out), HB3⟩, by simp only [intOf]; omega⟩
      · have hq2 : ((q : Int) == 0) = false := by simpa using hq0
        have HZ2 : Hid (zerosP L (m + 1) = zerosP L m) := Lib.hid (by rw [zerosP_succ, HZ.out, decide_eq_false hq0]; rfl)
        go_wp2
        exact ⟨⟨m + 1, by go_num, by omega, Lib.hid (by rw [HZ2.out]; exact HO.out), HB⟩, by simp only [intOf]; omega⟩
    · obtain rfl : m = ns.length := by omega
      have hI : ¬ (ns.length : Int) < (ns.length : Int) := by omega
      have HFIN : Hid (wr.ownsRow w.heap.size 3 1 (.slice Ar (zerosP L ns.length).length cr) (zerosP L L.length).length (ncl (zerosP L L.length))) := Lib.hid (by
        have h := owns_base HO.out (Nat.le_trans HB0.out.size HB2.out.size)
        rw [← HLN.out]; exact h)
      have HBF : Hid (Below w.heap.size w wr) := Lib.hid (HB0.out.trans ((HB2.out.trans (HB.out.mono HB2.out.size)).mono HB0.out.size))
      go_wp2
      go_ret2
      exact ⟨_, rfl, HFIN.out, HBF.out⟩
end
end Go.Proofs.YtbahehmfhjkgeaaGreat

/-
  How many nodes a function's diagram has at most: only what hangs on its own variable is counted. No program in sight.
-/
namespace Go.Proofs.YtbahehmfhjkgeaaGreat

/-- At each variable v the functions that are left behind the variables ahead, and hang on v, are c v at most. -/
def WidB (F : Fun) (k : Nat) : Prop := ∃ c : Nat → Nat, (∀ v, v < 256 → ∃ L : List Fun, L.length ≤ c v ∧ ∀ s, Free (cof F v s) v ∨ cof F v s ∈ L) ∧ sumTo c 256 ≤ k
theorem WidB.mono {F : Fun} {k m : Nat} (h : WidB F k) (hk : k ≤ m) : WidB F m := by
  obtain ⟨c, a, b⟩ := h
  exact ⟨c, a, by omega⟩
theorem wid_nodesB {N : List Nd} (w : WF N) {r k : Nat} (hr : r < N.length) (hw : WidB (fun s => ev N s r) k) {l : List Nat} (hn : l.Nodup) (hl : ∀ i ∈ l, 2 ≤ i ∧ Rch N r i) : l.length ≤ k := by
  obtain ⟨c, hc, hk⟩ := hw
  refine Nat.le_trans (by_label (fun i => (nd N i).v) c 256 l (fun i hi => ?_) fun v hv => ?_) hk
  · obtain ⟨h2, h⟩ := hl i hi
    exact w.v_lt h2 (h.lt w hr)
  · have hm : ∀ i ∈ (l.filter fun i => decide ((nd N i).v = v)), i ∈ l ∧ (nd N i).v = v := fun i hi => by
      have := List.mem_filter.1 hi
      exact ⟨this.1, by simpa using this.2⟩
    obtain ⟨L, hL, hc⟩ := hc v hv
    refine Nat.le_trans (inj_len _ L (fun i s => ev N s i) (hn.filter _) (fun i hi => ?_) fun i hi j hj e => ?_) hL
    · obtain ⟨h1, rfl⟩ := hm i hi
      obtain ⟨s, hs⟩ := (hl i h1).2.path w hr
      have e : cof (fun s => ev N s r) (nd N i).v s = fun t => ev N t i := funext hs
      rcases hc s with h | h
      · rw [e] at h
        exact absurd h (not_free w ((hl i h1).2.lt w hr) (.refl i) (hl i h1).1)
      · rw [e] at h; exact h
    · have h1 := hl i (hm i hi).1
      have h2 := hl j (hm j hj).1
      have := h1.2.lt w hr
      have := h2.2.lt w hr
      exact w.canon (i + j) i j (by omega) (by omega) (by omega) (by omega) fun s => congrFun e s
theorem newL_widB {N : List Nd} (w : WF N) (H : List Nat) {r k : Nat} (hr : r < N.length) (hw : WidB (fun s => ev N s r) k) : (newL N H r).length ≤ k :=
  wid_nodesB w hr hw (newL_ok w H hr).1 fun i hi => by
    rcases dfs_rch w H _ _ _ hr i hi with h | h
    · cases h
    · exact h
theorem Grow.widB {N : List Nd} {H : List Nat} {F : Fun} {k : Nat} (two : 2 ≤ N.length) (hw : WidB F k) : Grow N H F k k := fun r N' e w hr hs hn => by
  have hw' : WidB (fun s => ev N' s r) k := by rw [show (fun s => ev N' s r) = F from funext hs]; exact hw
  refine ⟨?_, newL_widB w H hr hw'⟩
  have hnd : ((List.range (N'.length - N.length)).map (· + N.length)).Nodup := by
    refine List.Pairwise.map _ (fun a b h => ?_) List.nodup_range
    omega
  have := wid_nodesB w hr hw' hnd (fun i hi => by
    simp only [List.mem_map, List.mem_range] at hi
    obtain ⟨a, ha, rfl⟩ := hi
    exact ⟨by omega, hn _ (by omega) (by omega)⟩)
  simp at this
  omega
/-- The even variables of a stretch. -/
theorem sumTo_even (k a b : Nat) : ∀ n, sumTo (fun v => if v % 2 = 0 ∧ a ≤ v / 2 ∧ v / 2 < b then k else 0) n ≤ (min ((n + 1) / 2) b - a) * k
  | 0 => by simp [sumTo]
  | n + 1 => by
    show sumTo _ n + (if n % 2 = 0 ∧ a ≤ n / 2 ∧ n / 2 < b then k else 0) ≤ _
    have ih := sumTo_even k a b n
    by_cases h : n % 2 = 0 ∧ a ≤ n / 2 ∧ n / 2 < b
    · rw [if_pos h]
      have e : min ((n + 1 + 1) / 2) b - a = (min ((n + 1) / 2) b - a) + 1 := by omega
      rw [e, Nat.add_mul, Nat.one_mul]
      omega
    · rw [if_neg h, Nat.add_zero]
      exact Nat.le_trans ih (Nat.mul_le_mul_right _ (by omega))
theorem sumTo_add (c d : Nat → Nat) : ∀ n, sumTo (fun v => c v + d v) n = sumTo c n + sumTo d n
  | 0 => rfl
  | n + 1 => by
    show sumTo _ n + (c n + d n) = (sumTo c n + c n) + (sumTo d n + d n)
    rw [sumTo_add c d n]; omega
end Go.Proofs.YtbahehmfhjkgeaaGreat

/-
  Functions of which of a list's boxes hold a header: how many nodes their diagrams have at most. No program in sight.
-/
namespace Go.Proofs.YtbahehmfhjkgeaaGreat

/-- A field's first m bits, as a number. -/
def valF (a : Nat) (s : Nat → Bool) : Nat → Nat
  | 0 => 0
  | m + 1 => 2 * valF a s m + (if s (2 * (a + m)) then 1 else 0)
/-- d bits behind the first m. -/
def tailF (a : Nat) (s : Nat → Bool) (m : Nat) : Nat → Nat
  | 0 => 0
  | d + 1 => 2 * tailF a s m d + (if s (2 * (a + m + d)) then 1 else 0)
theorem valF_split (a : Nat) (s : Nat → Bool) (m : Nat) : ∀ d, valF a s (m + d) = valF a s m * 2 ^ d + tailF a s m d
  | 0 => by simp [tailF]
  | d + 1 => by
    show 2 * valF a s (m + d) + (if s (2 * (a + (m + d))) then 1 else 0) = _ * 2 ^ (d + 1) + (2 * tailF a s m d + (if s (2 * (a + m + d)) then 1 else 0))
    rw [valF_split a s m d, ← Nat.add_assoc a m d, Nat.pow_succ, ← Nat.mul_assoc]
    omega
theorem tailF_lt (a : Nat) (s : Nat → Bool) (m : Nat) : ∀ d, tailF a s m d < 2 ^ d
  | 0 => by simp [tailF]
  | d + 1 => by
    have := tailF_lt a s m d
    show 2 * tailF a s m d + (if s (2 * (a + m + d)) then 1 else 0) < 2 ^ (d + 1)
    rw [Nat.pow_succ]
    split <;> omega
theorem valF_lt (a : Nat) (s : Nat → Bool) (n : Nat) : valF a s n < 2 ^ n := by
  have h := valF_split a s 0 n
  rw [Nat.zero_add] at h
  have := tailF_lt a s 0 n
  rw [h]
  show 0 * 2 ^ n + _ < _
  omega
theorem valF_agree {a : Nat} {s t : Nat → Bool} : ∀ {m : Nat}, (∀ j, j < m → s (2 * (a + j)) = t (2 * (a + j))) → valF a s m = valF a t m
  | 0, _ => rfl
  | m + 1, h => by
    show 2 * valF a s m + _ = 2 * valF a t m + _
    rw [valF_agree (m := m) fun j hj => h j (by omega), h m (by omega)]
theorem tailF_agree {a : Nat} {s t : Nat → Bool} {m : Nat} : ∀ {d : Nat}, (∀ j, m ≤ j → j < m + d → s (2 * (a + j)) = t (2 * (a + j))) → tailF a s m d = tailF a t m d
  | 0, _ => rfl
  | d + 1, h => by
    show 2 * tailF a s m d + _ = 2 * tailF a t m d + _
    rw [tailF_agree (d := d) fun j h1 h2 => h j h1 (by omega)]
    have := h (m + d) (by omega) (by omega)
    rw [← Nat.add_assoc] at this
    rw [this]
/-- A field: where it lies, its bits, how many marks an index has at most, what an index lets, the marks, how lists of indices part. -/
structure Fd where
  a : Nat
  n : Nat
  e : Nat
  P : Nat → Nat → Bool
  E : Nat → List Nat
  L : (Nat → Nat) → Nat → Nat
def Mono (w : Nat → Nat) : Prop := ∀ i j, i ≤ j → w i ≤ w j
structure FdOk (f : Fd) : Prop where
  el : ∀ i, (f.E i).length ≤ f.e
  flat : ∀ i d y x x', y ∉ (f.E i).map (· / 2 ^ d) → x / 2 ^ d = y → x' / 2 ^ d = y → f.P i x = f.P i x'
  split : ∀ T : List Nat, ∃ A : List (List Nat), (∀ x, T.filter (fun i => f.P i x) ∈ A ∨ T.filter (fun i => f.P i x) = []) ∧ ∀ w : Nat → Nat, Mono w → (A.map fun U => w U.length).sum ≤ f.L w T.length
  mono : ∀ w, Mono w → Mono (f.L w)
def stepA (f : Fd) (T : List Nat) (s : Nat → Bool) : List Nat := T.filter fun i => f.P i (valF f.a s f.n)
/-- The indices that let the fields' bits. -/
def aliveL : List Fd → List Nat → (Nat → Bool) → List Nat
  | [], T, _ => T
  | f :: r, T, s => aliveL r (stepA f T s) s
theorem alive_nil (s : Nat → Bool) : ∀ fs, aliveL fs [] s = []
  | [] => rfl
  | _ :: r => alive_nil s r
theorem alive_app (s : Nat → Bool) (r : List Fd) : ∀ (p : List Fd) (T : List Nat), aliveL (p ++ r) T s = aliveL r (aliveL p T s) s
  | [], _ => rfl
  | f :: p, T => alive_app s r p (stepA f T s)
theorem alive_agree {s t : Nat → Bool} : ∀ {fs : List Fd} {T : List Nat}, (∀ f ∈ fs, ∀ j, j < f.n → s (2 * (f.a + j)) = t (2 * (f.a + j))) → aliveL fs T s = aliveL fs T t
  | [], _, _ => rfl
  | f :: r, T, h => by
    show aliveL r (stepA f T s) s = aliveL r (stepA f T t) t
    rw [show stepA f T s = stepA f T t from by unfold stepA; rw [valF_agree (h f (List.mem_cons_self ..))]]
    exact alive_agree fun g hg => h g (List.mem_cons_of_mem _ hg)
def bigL : List Fd → (Nat → Nat) → Nat → Nat
  | [], w => w
  | f :: r, w => f.L (bigL r w)
theorem bigL_mono {w : Nat → Nat} (hw : Mono w) : ∀ {fs : List Fd}, (∀ f ∈ fs, FdOk f) → Mono (bigL fs w)
  | [], _ => hw
  | f :: _, h => (h f (List.mem_cons_self ..)).mono _ (bigL_mono hw fun g hg => h g (List.mem_cons_of_mem _ hg))
theorem sum_le {α : Type} {f g : α → Nat} : ∀ {l : List α}, (∀ x ∈ l, f x ≤ g x) → (l.map f).sum ≤ (l.map g).sum
  | [], _ => Nat.le_refl _
  | a :: r, h => by
    have := sum_le (l := r) fun x hx => h x (List.mem_cons_of_mem _ hx)
    have := h a (List.mem_cons_self ..)
    simp only [List.map_cons, List.sum_cons]
    omega
theorem sum_flat {α β : Type} (f : α → List β) (g : β → Nat) : ∀ l : List α, ((l.flatMap f).map g).sum = (l.map fun x => ((f x).map g).sum).sum
  | [] => rfl
  | a :: r => by simp [List.flatMap_cons, sum_flat f g r]
theorem len_flat {α β : Type} (f : α → List β) : ∀ l : List α, (l.flatMap f).length = (l.map fun x => (f x).length).sum
  | [] => rfl
  | a :: r => by simp [List.flatMap_cons, len_flat f r]
/-- All that can be alive behind the fields. -/
theorem cover : ∀ {fs : List Fd}, (∀ f ∈ fs, FdOk f) → ∀ T : List Nat, ∃ A : List (List Nat), (∀ s, aliveL fs T s ∈ A ∨ aliveL fs T s = []) ∧ ∀ w : Nat → Nat, Mono w → (A.map fun U => w U.length).sum ≤ bigL fs w T.length
  | [], _, T => ⟨[T], fun s => .inl (List.mem_singleton.2 rfl), fun w _ => by simp [bigL]⟩
  | f :: r, h, T => by
    obtain ⟨A, hA, hw⟩ := (h f (List.mem_cons_self ..)).split T
    have hr : ∀ g ∈ r, FdOk g := fun g hg => h g (List.mem_cons_of_mem _ hg)
    have hc := fun U => cover hr U
    refine ⟨A.flatMap fun U => (hc U).choose, fun s => ?_, fun w mw => ?_⟩
    · rcases hA (valF f.a s f.n) with h1 | h1
      · rcases (hc (stepA f T s)).choose_spec.1 s with h2 | h2
        · exact .inl (List.mem_flatMap.2 ⟨_, h1, h2⟩)
        · exact .inr h2
      · refine .inr ?_
        show aliveL r (stepA f T s) s = []
        rw [show stepA f T s = [] from h1, alive_nil]
    · rw [sum_flat]
      exact Nat.le_trans (sum_le fun U _ => (hc U).choose_spec.2 w mw) (hw _ (bigL_mono mw hr))
def idN : Nat → Nat := fun c => c
theorem mono_id : Mono idN := fun _ _ h => h
/-- How many are counted at a variable, all in all. -/
def cV (k : Nat) : List Fd → List Fd → Nat → Nat
  | _, [], _ => 0
  | pre, f :: post, v => (if v % 2 = 0 ∧ f.a ≤ v / 2 ∧ v / 2 < f.a + f.n then f.e * bigL pre idN k else 0) + cV k (pre ++ [f]) post v
def tot (k : Nat) : List Fd → List Fd → Nat
  | _, [] => 0
  | pre, f :: post => f.n * (f.e * bigL pre idN k) + tot k (pre ++ [f]) post
theorem cV_sum (k : Nat) : ∀ (fs pre : List Fd), sumTo (cV k pre fs) 256 ≤ tot k pre fs
  | [], _ => by
    have : ∀ n, sumTo (fun _ => 0) n = 0 := fun n => by rw [sumTo_const]; simp
    exact Nat.le_of_eq (this 256)
  | f :: post, pre => by
    have h1 := sumTo_even (f.e * bigL pre idN k) f.a (f.a + f.n) 256
    have h2 := cV_sum k post (pre ++ [f])
    have h3 : (min ((256 + 1) / 2) (f.a + f.n) - f.a) * (f.e * bigL pre idN k) ≤ f.n * (f.e * bigL pre idN k) := Nat.mul_le_mul_right _ (by omega)
    show sumTo (fun v => (if v % 2 = 0 ∧ f.a ≤ v / 2 ∧ v / 2 < f.a + f.n then f.e * bigL pre idN k else 0) + cV k (pre ++ [f]) post v) 256 ≤ f.n * (f.e * bigL pre idN k) + tot k (pre ++ [f]) post
    rw [sumTo_add]
    omega
theorem cV_ge (k : Nat) {f : Fd} {v : Nat} (h1 : v % 2 = 0) (h2 : f.a ≤ v / 2) (h3 : v / 2 < f.a + f.n) (p2 : List Fd) : ∀ (p1 pre : List Fd), f.e * bigL (pre ++ p1) idN k ≤ cV k pre (p1 ++ f :: p2) v
  | [], pre => by
    show _ ≤ (if v % 2 = 0 ∧ f.a ≤ v / 2 ∧ v / 2 < f.a + f.n then f.e * bigL pre idN k else 0) + _
    rw [if_pos ⟨h1, h2, h3⟩, List.append_nil]
    omega
  | g :: p1, pre => by
    have ih := cV_ge k h1 h2 h3 p2 p1 (pre ++ [g])
    rw [List.append_assoc] at ih
    exact Nat.le_trans ih (Nat.le_add_left _ _)
/-- What is left in a field. -/
def leftG (Φ : List Nat → Bool) (f : Fd) (post : List Fd) (m : Nat) (U : List Nat) (y : Nat) : Fun := fun t => Φ (aliveL post (U.filter fun i => f.P i (y * 2 ^ (f.n - m) + tailF f.a t m (f.n - m))) t)
theorem leftG_free {Φ : List Nat → Bool} {f : Fd} (ok : FdOk f) {post : List Fd} (hp : ∀ g ∈ post, f.a + f.n ≤ g.a) {m : Nat} (hm : m < f.n) {U : List Nat} {y : Nat} (hy : y ∉ (U.flatMap f.E).map (· / 2 ^ (f.n - m))) : Free (leftG Φ f post m U y) (2 * (f.a + m)) := fun t b => by
  unfold leftG
  have e : (U.filter fun i => f.P i (y * 2 ^ (f.n - m) + tailF f.a (put t (2 * (f.a + m)) b) m (f.n - m))) = U.filter fun i => f.P i (y * 2 ^ (f.n - m) + tailF f.a t m (f.n - m)) := by
    refine List.filter_congr fun i hi => ?_
    have hd : ∀ z, z < 2 ^ (f.n - m) → (y * 2 ^ (f.n - m) + z) / 2 ^ (f.n - m) = y := fun z hz => by
      rw [Nat.mul_comm, Nat.mul_add_div (Nat.two_pow_pos _), Nat.div_eq_of_lt hz, Nat.add_zero]
    exact ok.flat i (f.n - m) y _ _ (fun h => hy (by
      obtain ⟨e, he, h⟩ := List.mem_map.1 h
      exact List.mem_map.2 ⟨e, List.mem_flatMap.2 ⟨i, hi, he⟩, h⟩)) (hd _ (tailF_lt ..)) (hd _ (tailF_lt ..))
  rw [e]
  congr 1
  exact alive_agree fun g hg j _ => put_other (by have := hp g hg; omega)
theorem cof_level (Φ : List Nat → Bool) (pre : List Fd) (f : Fd) (post : List Fd) (h1 : ∀ g ∈ pre, g.a + g.n ≤ f.a) (h2 : ∀ g ∈ post, f.a + f.n ≤ g.a) (T : List Nat) {m : Nat} (hm : m < f.n) (s : Nat → Bool) :
    cof (fun s => Φ (aliveL (pre ++ f :: post) T s)) (2 * (f.a + m)) s = leftG Φ f post m (aliveL pre T s) (valF f.a s m) := funext fun t => by
  show Φ (aliveL (pre ++ f :: post) T (mixS (2 * (f.a + m)) s t)) = _
  unfold leftG
  rw [alive_app]
  congr 1
  show aliveL post (stepA f (aliveL pre T (mixS (2 * (f.a + m)) s t)) (mixS (2 * (f.a + m)) s t)) (mixS (2 * (f.a + m)) s t) = _
  rw [alive_agree (s := mixS (2 * (f.a + m)) s t) (t := s) (fs := pre) fun g hg j hj => mixS_low _ _ (by have := h1 g hg; omega)]
  rw [alive_agree (s := mixS (2 * (f.a + m)) s t) (t := t) (fs := post) fun g hg j hj => mixS_high _ _ (by have := h2 g hg; omega)]
  congr 1
  unfold stepA
  have e : valF f.a (mixS (2 * (f.a + m)) s t) f.n = valF f.a s m * 2 ^ (f.n - m) + tailF f.a t m (f.n - m) := by
    have h := valF_split f.a (mixS (2 * (f.a + m)) s t) m (f.n - m)
    rw [show m + (f.n - m) = f.n by omega] at h
    rw [h, valF_agree (s := mixS (2 * (f.a + m)) s t) (t := s) fun j hj => mixS_low _ _ (by omega), tailF_agree (s := mixS (2 * (f.a + m)) s t) (t := t) fun j h1 _ => mixS_high _ _ (by omega)]
  rw [e]
/-- THE BOUND. -/
theorem widB_box {fs : List Fd} (hord : fs.Pairwise fun f g => f.a + f.n ≤ g.a) (hok : ∀ f ∈ fs, FdOk f) (T : List Nat) (Φ : List Nat → Bool) : WidB (fun s => Φ (aliveL fs T s)) (tot T.length [] fs) := by
  refine ⟨cV T.length [] fs, fun v _ => ?_, cV_sum ..⟩
  by_cases h : ∃ f ∈ fs, v % 2 = 0 ∧ f.a ≤ v / 2 ∧ v / 2 < f.a + f.n
  · obtain ⟨f, hf, h0, h1, h2⟩ := h
    obtain ⟨p1, p2, rfl⟩ := List.append_of_mem hf
    obtain ⟨_, q2, q3⟩ := List.pairwise_append.1 hord
    have o1 : ∀ g ∈ p1, g.a + g.n ≤ f.a := fun g hg => q3 g hg f (List.mem_cons_self ..)
    have o2 : ∀ g ∈ p2, f.a + f.n ≤ g.a := (List.pairwise_cons.1 q2).1
    have ok := hok f hf
    obtain ⟨A, hA, hw⟩ := cover (fs := p1) (fun g hg => hok g (List.mem_append_left _ hg)) T
    obtain ⟨m, hm⟩ : ∃ m, v = 2 * (f.a + m) := ⟨v / 2 - f.a, by omega⟩
    have hmn : m < f.n := by omega
    refine ⟨A.flatMap fun U => (U.flatMap f.E).map fun e => leftG Φ f p2 m U (e / 2 ^ (f.n - m)), ?_, fun s => ?_⟩
    · refine Nat.le_trans ?_ (cV_ge T.length h0 h1 h2 p2 p1 [])
      rw [len_flat]
      have hU : ∀ U ∈ A, ((U.flatMap f.E).map fun e => leftG Φ f p2 m U (e / 2 ^ (f.n - m))).length ≤ f.e * idN U.length := fun U _ => by
        rw [List.length_map, len_flat]
        have := sum_le (f := fun i => (f.E i).length) (g := fun _ => f.e) (l := U) fun i _ => ok.el i
        have h3 : ∀ l : List Nat, (l.map fun _ => f.e).sum = f.e * l.length := fun l => by
          induction l with
          | nil => simp
          | cons a r ih => simp [ih, Nat.mul_add]; omega
        rw [h3] at this
        exact this
      refine Nat.le_trans (sum_le hU) ?_
      have h4 : ∀ l : List (List Nat), (l.map fun U => f.e * idN U.length).sum = f.e * (l.map fun U => idN U.length).sum := fun l => by
        induction l with
        | nil => simp
        | cons a r ih => simp [ih, Nat.mul_add]
      rw [h4]
      exact Nat.mul_le_mul_left _ (hw idN mono_id)
    · rw [hm, cof_level Φ p1 f p2 o1 o2 T hmn s]
      by_cases hy : valF f.a s m ∈ ((aliveL p1 T s).flatMap f.E).map (· / 2 ^ (f.n - m))
      · refine .inr ?_
        rcases hA s with h3 | h3
        · refine List.mem_flatMap.2 ⟨_, h3, ?_⟩
          obtain ⟨e, he, hv⟩ := List.mem_map.1 hy
          exact List.mem_map.2 ⟨e, he, by rw [hv]⟩
        · rw [h3] at hy
          simp at hy
      · exact .inl (leftG_free ok o2 hmn hy)
  · refine ⟨[], Nat.zero_le _, fun s => .inl fun t b => ?_⟩
    show Φ (aliveL fs T (mixS v s (put t v b))) = Φ (aliveL fs T (mixS v s t))
    congr 1
    refine alive_agree fun f hf j hj => ?_
    by_cases hv : 2 * (f.a + j) = v
    · exact absurd ⟨f, hf, by omega, by omega, by omega⟩ h
    · unfold mixS
      split
      · rfl
      · exact put_other hv
end Go.Proofs.YtbahehmfhjkgeaaGreat
