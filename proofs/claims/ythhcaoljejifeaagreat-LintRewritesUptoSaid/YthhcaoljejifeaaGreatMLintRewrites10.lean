/-
  Joined texts: Fr2, Fr3, Fr4, Fr5, Fr6, Wb4, Fc2, Tg1.
-/
import Derived.Test.YthhcaoljejifeaaGreatMLintRewrites9
import Derived.Deep.DeepCutAuto
import Derived.Test.YthhcaoljejifeaaGreatMLintRewrites3
/-
  A rule's set (written by wip/gen/genfr2.py).
-/
namespace Go.Proofs.YthhcaoljejifeaaGreat
open Go Go.RowKit Go.ChangeMaps Go.MapKept Go.Maps Go.Lib Go.Sort

/-- The first k of a rule's asks. -/
def ruleK (r : RuleV) : Nat → Fun
  | 0 => fun _ => true
  | k + 1 => fun s => ruleK r k s && askF r k s
def asksN (r : RuleV) : Nat := if 0 ≤ r.proto then 5 else 4
def ruleF (r : RuleV) : Fun := ruleK r (asksN r)
theorem SetF.lit {F : Fun} {x : Nat} (hx : x % 2 = 0) (b : Bool) (h : SetF F) : SetF (litF x b F) := fun v hv s c => by
  unfold litF
  rw [put_other (by omega), h v hv]
theorem SetF.step {F : Fun} {x : Nat} (hx : x % 2 = 0) (up b : Bool) (h : SetF F) : SetF (stepF x up b F) := fun v hv s c => by
  unfold stepF
  rw [put_other (by omega), h v hv]
theorem SetF.const (b : Bool) : SetF (fun _ => b) := fun v _ => Free.const b v
theorem SetF.op2 {F G : Fun} (o : Bool → Bool → Bool) (a : SetF F) (b : SetF G) : SetF (fun s => o (F s) (G s)) := fun v hv => (a v hv).op2 o (b v hv)
theorem SetF.op1 {F : Fun} (o : Bool → Bool) (a : SetF F) : SetF (fun s => o (F s)) := fun v hv => (a v hv).op1 o
theorem bitsF_set (a n v : Nat) : ∀ m, SetF (bitsF a 0 n v m)
  | 0 => SetF.const true
  | m + 1 => SetF.lit (by omega) _ (bitsF_set a n v m)
theorem reachF_set (a n v : Nat) (up : Bool) : ∀ m, SetF (reachF a n v up m)
  | 0 => SetF.const true
  | m + 1 => SetF.step (by omega) _ _ (reachF_set a n v up m)
theorem spanF_set (a n lo hi : Nat) : SetF (spanF a n lo hi) := (reachF_set a n lo true n).op2 (fun x y => x && y) (reachF_set a n hi false n)
theorem askF_set (r : RuleV) : ∀ k, SetF (askF r k)
  | 0 => bitsF_set _ _ _ _
  | 1 => bitsF_set _ _ _ _
  | 2 => spanF_set _ _ _ _
  | 3 => spanF_set _ _ _ _
  | _ + 4 => spanF_set _ _ _ _
theorem ruleK_set (r : RuleV) : ∀ k, SetF (ruleK r k)
  | 0 => SetF.const true
  | k + 1 => (ruleK_set r k).op2 (fun x y => x && y) (askF_set r k)
theorem Tryz.infoFn0 : (Tryz.prog.info? 131).map (fun i => (i.zero, i.size, i.bytes)) = some (some .nilFunc, 1, 8) := by kernel_rfl
def askV (sb rb : Nat) : Nat → Value
  | 0 => .func (.func 55) #[] #[.pointer (some ⟨sb, 0, none⟩), .pointer (some ⟨rb, 0, none⟩)]
  | 1 => .func (.func 57) #[] #[.pointer (some ⟨sb, 0, none⟩), .pointer (some ⟨rb, 0, none⟩)]
  | 2 => .func (.func 58) #[] #[.pointer (some ⟨sb, 0, none⟩), .pointer (some ⟨rb, 0, none⟩)]
  | 3 => .func (.func 60) #[] #[.pointer (some ⟨sb, 0, none⟩), .pointer (some ⟨rb, 0, none⟩)]
  | _ => .func (.func 61) #[] #[.pointer (some ⟨sb, 0, none⟩), .pointer (some ⟨rb, 0, none⟩)]
section
variable {w : World} {B S km : Nat} {A : Blks} {Mo : Nat} {σ : Sg}
set_option maxRecDepth 100000
set_option maxHeartbeats 4000000
/-- An ask, whichever it is. -/
theorem ask_yes (r : RuleV) (ok : RuleOk r) (sb rb k : Nat) (hk : k < asksN r) : ∃ fid, askV sb rb k = .func (.func fid) #[] #[.pointer (some ⟨sb, 0, none⟩), .pointer (some ⟨rb, 0, none⟩)] ∧ (∀ (args : Array Value) (w : World), (callFunc fid args).run Tryz.prog w = .ok (.enter fid args) w) ∧
    ∀ (w : World) (τ : Sg), SpOk w B S km A Mo τ → AskBox w S sb rb r → τ.N.length + 1216 ≤ 2147483647 → Calls Tryz.prog fid #[.pointer (some ⟨sb, 0, none⟩), .pointer (some ⟨rb, 0, none⟩)] w (SpRes w B S km A Mo τ (askF r k) 1216 1216) := by
  have h5 : asksN r ≤ 5 := by unfold asksN; split <;> omega
  obtain rfl | rfl | rfl | rfl | rfl : k = 0 ∨ k = 1 ∨ k = 2 ∨ k = 3 ∨ k = 4 := by omega
  · exact ⟨_, rfl, fun _ _ => by go_simp, fun w τ h hb hl => ask0_yes h r ok sb rb hb hl⟩
  · exact ⟨_, rfl, fun _ _ => by go_simp, fun w τ h hb hl => ask1_yes h r ok sb rb hb hl⟩
  · exact ⟨_, rfl, fun _ _ => by go_simp, fun w τ h hb hl => ask2_yes h r ok sb rb hb hl⟩
  · exact ⟨_, rfl, fun _ _ => by go_simp, fun w τ h hb hl => ask3_yes h r ok sb rb hb hl⟩
  · have hp : 0 ≤ r.proto := by unfold asksN at hk; split at hk <;> omega
    exact ⟨_, rfl, fun _ _ => by go_simp, fun w τ h hb hl => ask4_yes h r ok hp sb rb hb hl⟩
theorem rule_yes (h : SpOk w B S km A Mo σ) (r : RuleV) (ok : RuleOk r) (K : Nat) (hK : ∀ k, k ≤ 5 → Wid (ruleK r k) K) (hl : σ.N.length + 5 * (1216 + K) ≤ 2147483647) :
    Calls Tryz.prog 41 #[.pointer (some ⟨S, 0, none⟩), .agg #[.bool r.permit, .int .i64 r.proto, .int .u32 r.sa, .int .i64 r.sn, .int .u32 r.da, .int .i64 r.dn, .int .u32 r.sl, .int .u32 r.sh, .int .u32 r.dl, .int .u32 r.dh]] w
      (SpRes w B S km A Mo σ (ruleF r) (5 * (1216 + K)) (5 * (1216 + K))) := by
  obtain ⟨i0, hif, hz0, hz1, hz2⟩ := info_parts Tryz.infoFn0
  have hW : (w.alloc (.cells #[.pointer (some ⟨S, 0, none⟩)] 76)).alloc (.cells #[.bool r.permit, .int .i64 r.proto, .int .u32 r.sa, .int .i64 r.sn, .int .u32 r.da, .int .i64 r.dn, .int .u32 r.sl, .int .u32 r.sh, .int .u32 r.dl, .int .u32 r.dh] 71) = (w.alloc (.cells #[.pointer (some ⟨S, 0, none⟩)] 76)).alloc (.cells #[.bool r.permit, .int .i64 r.proto, .int .u32 r.sa, .int .i64 r.sn, .int .u32 r.da, .int .i64 r.dn, .int .u32 r.sl, .int .u32 r.sh, .int .u32 r.dl, .int .u32 r.dh] 71) := rfl
  have hbw := below2 w (.cells #[.pointer (some ⟨S, 0, none⟩)] 76) (.cells #[.bool r.permit, .int .i64 r.proto, .int .u32 r.sa, .int .i64 r.sn, .int .u32 r.da, .int .i64 r.dn, .int .u32 r.sl, .int .u32 r.sh, .int .u32 r.dl, .int .u32 r.dh] 71)
  have hs1 : (w.alloc (.cells #[.pointer (some ⟨S, 0, none⟩)] 76)).heap.size = w.heap.size + 1 := by simp
  have hks := blk_below (below1 (w.alloc (.cells #[.pointer (some ⟨S, 0, none⟩)] 76)) (.cells #[.bool r.permit, .int .i64 r.proto, .int .u32 r.sa, .int .i64 r.sn, .int .u32 r.da, .int .i64 r.dn, .int .u32 r.sl, .int .u32 r.sh, .int .u32 r.dl, .int .u32 r.dh] 71)) (blk1 w (.cells #[.pointer (some ⟨S, 0, none⟩)] 76))
  have hkr := blk1 (w.alloc (.cells #[.pointer (some ⟨S, 0, none⟩)] 76)) (.cells #[.bool r.permit, .int .i64 r.proto, .int .u32 r.sa, .int .i64 r.sn, .int .u32 r.da, .int .i64 r.dn, .int .u32 r.sl, .int .u32 r.sh, .int .u32 r.dl, .int .u32 r.dh] 71)
  rw [hs1] at hkr
  have HSZ : Hid (((w.alloc (.cells #[.pointer (some ⟨S, 0, none⟩)] 76)).alloc (.cells #[.bool r.permit, .int .i64 r.proto, .int .u32 r.sa, .int .i64 r.sn, .int .u32 r.da, .int .i64 r.dn, .int .u32 r.sl, .int .u32 r.sh, .int .u32 r.dl, .int .u32 r.dh] 71)).heap.size = w.heap.size + 1 + 1) := Lib.hid (by simp)
  have HAB := Lib.hid (show AskBox _ S w.heap.size (w.heap.size + 1) r from ⟨hks, hkr⟩)
  have HF1 := Lib.hid (h.sp.ar.foreign_new hbw (Nat.le_refl _) (lt_of_block hks))
  have HF2 := Lib.hid (h.sp.ar.foreign_new hbw (show w.heap.size ≤ w.heap.size + 1 by omega) (lt_of_block hkr))
  have HNE : Hid (w.heap.size ≠ km ∧ w.heap.size + 1 ≠ km) := Lib.hid (by have := h.sp.fk.1; omega)
  have HS := Lib.hid (h.below hbw)
  have HK := Lib.hid (h.kept hbw)
  have HWK := Lib.hid hK
  have HOK := Lib.hid ok
  have c1 : ((w.alloc (.cells #[.pointer (some ⟨S, 0, none⟩)] 76)).alloc (.cells #[.bool r.permit, .int .i64 r.proto, .int .u32 r.sa, .int .i64 r.sn, .int .u32 r.da, .int .i64 r.dn, .int .u32 r.sl, .int .u32 r.sh, .int .u32 r.dl, .int .u32 r.dh] 71)).cell? ⟨w.heap.size + 1, 1, none⟩ = some (.int .i64 r.proto) := cell_of_row _ _ 1 _ _ (0, 0) hkr
  clear h hbw hks hkr hs1 hK ok hW
  go_enter Tryz.func41, Tryz.ntmps41
  go_upto_region 1 with fail
  generalize (w.alloc (.cells #[.pointer (some ⟨S, 0, none⟩)] 76)).alloc (.cells #[.bool r.permit, .int .i64 r.proto, .int .u32 r.sa, .int .i64 r.sn, .int .u32 r.da, .int .i64 r.dn, .int .u32 r.sl, .int .u32 r.sh, .int .u32 r.dl, .int .u32 r.dh] 71) = w0 at *
  have HROW := Lib.hid (show (w0.alloc (.cells #[askV w.heap.size (w.heap.size + 1) 0, askV w.heap.size (w.heap.size + 1) 1, askV w.heap.size (w.heap.size + 1) 2, askV w.heap.size (w.heap.size + 1) 3] 131)).ownsRow w0.heap.size 131 1 (.slice (some ⟨w0.heap.size, 0, none⟩) 4 4) 4 [askV w.heap.size (w.heap.size + 1) 0, askV w.heap.size (w.heap.size + 1) 1, askV w.heap.size (w.heap.size + 1) 2, askV w.heap.size (w.heap.size + 1) 3] from
    World.ownsRow_lit w0 #[askV w.heap.size (w.heap.size + 1) 0, askV w.heap.size (w.heap.size + 1) 1, askV w.heap.size (w.heap.size + 1) 2, askV w.heap.size (w.heap.size + 1) 3] 4 (Nat.le_refl _) (by unfold maxLen; omega) rfl)
  have HB1 := Lib.hid (below1 w0 (.cells #[askV w.heap.size (w.heap.size + 1) 0, askV w.heap.size (w.heap.size + 1) 1, askV w.heap.size (w.heap.size + 1) 2, askV w.heap.size (w.heap.size + 1) 3] 131))
  have hWV : w0.alloc (.cells #[.func (.func 55) #[] #[.pointer (some ⟨w.heap.size, 0, none⟩), .pointer (some ⟨w.heap.size + 1, 0, none⟩)], .func (.func 57) #[] #[.pointer (some ⟨w.heap.size, 0, none⟩), .pointer (some ⟨w.heap.size + 1, 0, none⟩)], .func (.func 58) #[] #[.pointer (some ⟨w.heap.size, 0, none⟩), .pointer (some ⟨w.heap.size + 1, 0, none⟩)], .func (.func 60) #[] #[.pointer (some ⟨w.heap.size, 0, none⟩), .pointer (some ⟨w.heap.size + 1, 0, none⟩)]] 131) = w0.alloc (.cells #[askV w.heap.size (w.heap.size + 1) 0, askV w.heap.size (w.heap.size + 1) 1, askV w.heap.size (w.heap.size + 1) 2, askV w.heap.size (w.heap.size + 1) 3] 131) := rfl
  go_upto_region 2 with fail
  clear hWV
  generalize w0.alloc (.cells #[askV w.heap.size (w.heap.size + 1) 0, askV w.heap.size (w.heap.size + 1) 1, askV w.heap.size (w.heap.size + 1) 2, askV w.heap.size (w.heap.size + 1) 3] 131) = w1 at *
  have d1 : w1.cell? ⟨w.heap.size + 1, 1, none⟩ = some (.int .i64 r.proto) := cell_of_row _ _ 1 _ _ (0, 0) (blk_below HB1.out HAB.out.r)
  clear c1
  by_cases hp : 0 ≤ r.proto
  · have hpi : r.proto ≥ 0 := hp
    have hne : asksN r = 5 := if_pos hp
    have HN := Lib.hid hne
    have hbs := HB1.out.size
    clear hp hne
    go_upto_region 4 with (at_builtin; refine wpList_push2 (v := .slice (some ⟨w0.heap.size, 0, none⟩) 4 4) rfl _ _ 134 rfl 131 i0 _ 1 8 Tryz.underlying134 hif hz0 hz1 hz2 rfl (by decide) (by decide) [askV w.heap.size (w.heap.size + 1) 4] rfl rfl rfl HROW.out rfl (by intro u hu; simp at hu; subst hu; rfl) (by omega) hbs ?_; intro v2 w2 hown2 hg2 hmv2; obtain ⟨A2, c2, hv2, hA2⟩ := owns_form hown2; subst hv2; have HO2 := Lib.hid hown2; have HA2 := Lib.hid hA2; have HB2 := Lib.hid (below_grown HB1.out hbs hg2 (fun g hg => by have : some w0.heap.size = some g := hg; injection this; omega)); clear hown2 hg2 hmv2 hA2)
    clear HROW hbs
    have HS2 := Lib.hid (HS.out.below HB2.out)
    have HK2 := Lib.hid (HK.out.trans (HS.out.kept HB2.out))
    have HAB2 := Lib.hid (show AskBox w2 S w.heap.size (w.heap.size + 1) r from ⟨blk_below HB2.out HAB.out.s, blk_below HB2.out HAB.out.r⟩)
    have HG2 := Lib.hid (And.intro (((HS.out.kept HB2.out).same _ HF1.out HNE.out.1).2) (((HS.out.kept HB2.out).same _ HF2.out HNE.out.2).2))
    have HBOX : Hid (∀ W, KeptS A km w2 W → AskBox W S w.heap.size (w.heap.size + 1) r) := Lib.hid fun W hW => ⟨(hW.same _ HG2.out.1 HNE.out.1).1.trans HAB2.out.s, (hW.same _ HG2.out.2 HNE.out.2).1.trans HAB2.out.r⟩
    have HCELL : Hid (∀ k, k < 5 → ∃ g, A2 = some ⟨g, 0, none⟩ ∧ ∀ W, KeptS A km w2 W → W.cell? ⟨g, k, none⟩ = some (askV w.heap.size (w.heap.size + 1) k)) := Lib.hid fun k hk => by
      obtain ⟨g, hg⟩ := HA2.out (by omega)
      have hlg := HO2.out.lt g (by rw [hg]; rfl)
      have hgf := HS.out.sp.ar.foreign_new HB2.out hlg.1 hlg.2
      have hgk : g ≠ km := by have := HS.out.sp.fk.1; omega
      refine ⟨g, hg, fun W hW => (World.cell?_of_block (hW.same _ hgf hgk).1).trans ?_⟩
      have ho := HO2.out
      rw [hg] at ho
      refine (ho.cellAt k (by omega)).trans ?_
      obtain rfl | rfl | rfl | rfl | rfl : k = 0 ∨ k = 1 ∨ k = 2 ∨ k = 3 ∨ k = 4 := by omega
      all_goals rfl
    clear HO2 HB2 HA2 HAB HF1 HF2 HSZ HAB2 HG2 HNE HS HK
    go_wp2
    go_loopw [7, 26] (fun f i wr => ∃ k : Nat, i = .int .i64 k ∧ k ≤ 5 ∧ ∃ (q : Nat) (τ : Sg), f = .int .i64 q ∧ Hid (SpOk wr B S km A Mo τ) ∧ Hid (To (k * (1216 + K)) (k * (1216 + K)) σ τ) ∧ Hid (Den τ q (ruleK r k)) ∧ Hid (KeptS A km w2 wr)) (fun _ i _ => 5 - (intOf i).toNat)
    case atStart => exact ⟨0, rfl, by omega, 1, σ, rfl, HS2, Lib.hid (by rw [Nat.zero_mul]; exact To.refl σ), Lib.hid (Den.one HS2.out.ok), Lib.hid (KeptS.refl _ _ _)⟩
    case round =>
      obtain ⟨k, rfl, hk, q, τ, rfl, HSR, HTR, HDR, HKR⟩ := hrel
      by_cases hlt : k < 5
      · have hI : (k : Int) < 5 := by omega
        obtain ⟨g, hge, hcell⟩ := HCELL.out k hlt
        have hcl := hcell wr HKR.out
        obtain ⟨fid, hfv, hen, hcall⟩ := ask_yes (B := B) (S := S) (km := km) (A := A) (Mo := Mo) r HOK.out w.heap.size (w.heap.size + 1) k (by rw [HN.out]; exact hlt)
        rw [hfv] at hcl
        have hm1 : (k + 1) * (1216 + K) ≤ 5 * (1216 + K) := Nat.mul_le_mul_right _ (by omega)
        have hm2 : (k + 1) * (1216 + K) = k * (1216 + K) + (1216 + K) := by rw [Nat.add_mul, Nat.one_mul]
        have hnl := HTR.out.nl
        have HCL := Lib.hid (hcall wr τ HSR.out (HBOX.out wr HKR.out) (by omega))
        have HM := Lib.hid (And.intro hm1 hm2)
        clear hcell hfv hcall hm1 hm2 hnl
        subst hge
        go_upto_region 9 with ((with_reducible refine HCL.out.mono ?_); rintro e w5 hr5; obtain ⟨q5, c5, he5⟩ := hr5.form; have HR5 := Lib.hid hr5; subst he5; clear hr5)
        rcases HR5.out.two with ⟨rfl, rfl, hlt5, τ5, hs5, ht5⟩ | ⟨r5, τ5, rfl, rfl, hs5, ht5, hd5⟩
        · have HFIN := Lib.hid (SpRes.full (F := ruleF r) (HK2.out.trans (HKR.out.trans HR5.out.1)) rfl (by have := HTR.out.hl; have := HM.out; omega) hs5 ((HTR.out.trans ht5).mono (show k * (1216 + K) + 1216 ≤ 5 * (1216 + K) by have := HM.out; omega) (show k * (1216 + K) + 1216 ≤ 5 * (1216 + K) by have := HM.out; omega)))
          clear hlt5 hs5 ht5
          go_wp2
          go_ret2
          exact HFIN.out
        · have HS5 := Lib.hid hs5
          have HT5 := Lib.hid (HTR.out.trans ht5)
          have HK5 := Lib.hid (HKR.out.trans HR5.out.1)
          have hnl := HT5.out.nl
          have hm := HM.out
          have hw := HWK.out (k + 1) (by omega)
          have HAN := Lib.hid (show Calls Tryz.prog 42 #[.pointer (some ⟨S, 0, none⟩), .int .i64 q, .int .i64 r5] w5 (SpRes w5 B S km A Mo τ5 (ruleK r (k + 1)) K K) from relAnd_yes hs5 (HDR.out.to ht5 HSR.out.ok hs5.ok) hd5 (ruleK_set r k) (askF_set r k) (a := K) (b := K) (Grow.wid hs5.ok.wf.two hw) (by omega))
          have s0 := cell0 (HBOX.out w5 HK5.out).s
          clear hs5 ht5 hd5 HR5 HCL hnl hm hw hcl hen
          go_upto_region 12 with ((with_reducible refine HAN.out.mono ?_); rintro e w7 hr7; obtain ⟨q7, c7, he7⟩ := hr7.form; have HR7 := Lib.hid hr7; subst he7; clear hr7)
          rcases HR7.out.two with ⟨rfl, rfl, hlt7, τ7, hs7, ht7⟩ | ⟨r7, τ7, rfl, rfl, hs7, ht7, hd7⟩
          · have HFIN := Lib.hid (SpRes.full (F := ruleF r) (HK2.out.trans (HK5.out.trans HR7.out.1)) rfl (by have := HT5.out.hl; have := HM.out; omega) hs7 ((HT5.out.trans ht7).mono (show k * (1216 + K) + 1216 + K ≤ 5 * (1216 + K) by have := HM.out; omega) (show k * (1216 + K) + 1216 + K ≤ 5 * (1216 + K) by have := HM.out; omega)))
            clear hlt7 hs7 ht7
            go_wp2
            go_ret2
            exact HFIN.out
          · have HS7 := Lib.hid hs7
            have HT7 := Lib.hid ((HT5.out.trans ht7).mono (show k * (1216 + K) + 1216 + K ≤ (k + 1) * (1216 + K) by have := HM.out; omega) (show k * (1216 + K) + 1216 + K ≤ (k + 1) * (1216 + K) by have := HM.out; omega))
            have HD7 := Lib.hid hd7
            have HK7 := Lib.hid (HK5.out.trans HR7.out.1)
            clear hs7 ht7 hd7 HR7 HAN
            go_wp2
            exact ⟨⟨k + 1, by go_num, by omega, r7, τ7, rfl, HS7, HT7, HD7, HK7⟩, by simp only [intOf]; omega⟩
      · obtain rfl : k = 5 := by omega
        have hI : ¬ ((5 : Nat) : Int) < 5 := by omega
        have hfd := HDR.out
        have hrf : ruleF r = ruleK r 5 := by unfold ruleF; rw [HN.out]
        rw [← hrf] at hfd
        have HFIN : Hid (SpRes w B S km A Mo σ (ruleF r) (5 * (1216 + K)) (5 * (1216 + K)) (.returned (.tuple #[.int .i64 q, .int .i64 0])) wr) := Lib.hid ⟨HK2.out.trans HKR.out, .inr ⟨q, τ, rfl, HSR.out, HTR.out.mono (Nat.mul_le_mul_right _ (by omega)) (Nat.mul_le_mul_right _ (by omega)), hfd⟩⟩
        clear hfd hrf
        go_wp2
        go_ret2
        exact HFIN.out
  · have hpi : ¬ r.proto ≥ 0 := hp
    have hne : asksN r = 4 := if_neg hp
    have HN := Lib.hid hne
    clear hp hne
    go_upto_region 4 with fail
    obtain ⟨A2, hA2e⟩ : ∃ A2 : Option Addr, A2 = some ⟨w0.heap.size, 0, none⟩ := ⟨_, rfl⟩
    obtain ⟨c2, hc2e⟩ : ∃ c2 : Nat, c2 = 4 := ⟨_, rfl⟩
    have HO2 := HROW
    have HA2 : Hid (0 < 4 → ∃ g, some (⟨w0.heap.size, 0, none⟩ : Addr) = some ⟨g, 0, none⟩) := Lib.hid fun _ => ⟨_, rfl⟩
    have HB2 := HB1
    clear HROW HB1 d1 hA2e hc2e
    clear A2 c2
    rename World => w2
    have HS2 := Lib.hid (HS.out.below HB2.out)
    have HK2 := Lib.hid (HK.out.trans (HS.out.kept HB2.out))
    have HAB2 := Lib.hid (show AskBox w2 S w.heap.size (w.heap.size + 1) r from ⟨blk_below HB2.out HAB.out.s, blk_below HB2.out HAB.out.r⟩)
    have HG2 := Lib.hid (And.intro (((HS.out.kept HB2.out).same _ HF1.out HNE.out.1).2) (((HS.out.kept HB2.out).same _ HF2.out HNE.out.2).2))
    have HBOX : Hid (∀ W, KeptS A km w2 W → AskBox W S w.heap.size (w.heap.size + 1) r) := Lib.hid fun W hW => ⟨(hW.same _ HG2.out.1 HNE.out.1).1.trans HAB2.out.s, (hW.same _ HG2.out.2 HNE.out.2).1.trans HAB2.out.r⟩
    have HCELL : Hid (∀ k, k < 4 → ∃ g, (some (⟨w0.heap.size, 0, none⟩ : Addr)) = some ⟨g, 0, none⟩ ∧ ∀ W, KeptS A km w2 W → W.cell? ⟨g, k, none⟩ = some (askV w.heap.size (w.heap.size + 1) k)) := Lib.hid fun k hk => by
      obtain ⟨g, hg⟩ := HA2.out (by omega)
      have hlg := HO2.out.lt g (by rw [hg]; rfl)
      have hgf := HS.out.sp.ar.foreign_new HB2.out hlg.1 hlg.2
      have hgk : g ≠ km := by have := HS.out.sp.fk.1; omega
      refine ⟨g, hg, fun W hW => (World.cell?_of_block (hW.same _ hgf hgk).1).trans ?_⟩
      have ho := HO2.out
      rw [hg] at ho
      refine (ho.cellAt k (by omega)).trans ?_
      obtain rfl | rfl | rfl | rfl : k = 0 ∨ k = 1 ∨ k = 2 ∨ k = 3 := by omega
      all_goals rfl
    clear HO2 HB2 HA2 HAB HF1 HF2 HSZ HAB2 HG2 HNE HS HK
    go_wp2
    go_loopw [7, 26] (fun f i wr => ∃ k : Nat, i = .int .i64 k ∧ k ≤ 4 ∧ ∃ (q : Nat) (τ : Sg), f = .int .i64 q ∧ Hid (SpOk wr B S km A Mo τ) ∧ Hid (To (k * (1216 + K)) (k * (1216 + K)) σ τ) ∧ Hid (Den τ q (ruleK r k)) ∧ Hid (KeptS A km w2 wr)) (fun _ i _ => 4 - (intOf i).toNat)
    case atStart => exact ⟨0, rfl, by omega, 1, σ, rfl, HS2, Lib.hid (by rw [Nat.zero_mul]; exact To.refl σ), Lib.hid (Den.one HS2.out.ok), Lib.hid (KeptS.refl _ _ _)⟩
    case round =>
      obtain ⟨k, rfl, hk, q, τ, rfl, HSR, HTR, HDR, HKR⟩ := hrel
      by_cases hlt : k < 4
      · have hI : (k : Int) < 4 := by omega
        obtain ⟨g, hge, hcell⟩ := HCELL.out k hlt
        have hcl := hcell wr HKR.out
        obtain ⟨fid, hfv, hen, hcall⟩ := ask_yes (B := B) (S := S) (km := km) (A := A) (Mo := Mo) r HOK.out w.heap.size (w.heap.size + 1) k (by rw [HN.out]; exact hlt)
        rw [hfv] at hcl
        have hm1 : (k + 1) * (1216 + K) ≤ 5 * (1216 + K) := Nat.mul_le_mul_right _ (by omega)
        have hm2 : (k + 1) * (1216 + K) = k * (1216 + K) + (1216 + K) := by rw [Nat.add_mul, Nat.one_mul]
        have hnl := HTR.out.nl
        have HCL := Lib.hid (hcall wr τ HSR.out (HBOX.out wr HKR.out) (by omega))
        have HM := Lib.hid (And.intro hm1 hm2)
        clear hcell hfv hcall hm1 hm2 hnl
        obtain rfl : g = w0.heap.size := by injection hge with hge; injection hge with h1; exact h1.symm
        go_upto_region 9 with ((with_reducible refine HCL.out.mono ?_); rintro e w5 hr5; obtain ⟨q5, c5, he5⟩ := hr5.form; have HR5 := Lib.hid hr5; subst he5; clear hr5)
        rcases HR5.out.two with ⟨rfl, rfl, hlt5, τ5, hs5, ht5⟩ | ⟨r5, τ5, rfl, rfl, hs5, ht5, hd5⟩
        · have HFIN := Lib.hid (SpRes.full (F := ruleF r) (HK2.out.trans (HKR.out.trans HR5.out.1)) rfl (by have := HTR.out.hl; have := HM.out; omega) hs5 ((HTR.out.trans ht5).mono (show k * (1216 + K) + 1216 ≤ 5 * (1216 + K) by have := HM.out; omega) (show k * (1216 + K) + 1216 ≤ 5 * (1216 + K) by have := HM.out; omega)))
          clear hlt5 hs5 ht5
          go_wp2
          go_ret2
          exact HFIN.out
        · have HS5 := Lib.hid hs5
          have HT5 := Lib.hid (HTR.out.trans ht5)
          have HK5 := Lib.hid (HKR.out.trans HR5.out.1)
          have hnl := HT5.out.nl
          have hm := HM.out
          have hw := HWK.out (k + 1) (by omega)
          have HAN := Lib.hid (show Calls Tryz.prog 42 #[.pointer (some ⟨S, 0, none⟩), .int .i64 q, .int .i64 r5] w5 (SpRes w5 B S km A Mo τ5 (ruleK r (k + 1)) K K) from relAnd_yes hs5 (HDR.out.to ht5 HSR.out.ok hs5.ok) hd5 (ruleK_set r k) (askF_set r k) (a := K) (b := K) (Grow.wid hs5.ok.wf.two hw) (by omega))
          have s0 := cell0 (HBOX.out w5 HK5.out).s
          clear hs5 ht5 hd5 HR5 HCL hnl hm hw hcl hen
          go_upto_region 12 with ((with_reducible refine HAN.out.mono ?_); rintro e w7 hr7; obtain ⟨q7, c7, he7⟩ := hr7.form; have HR7 := Lib.hid hr7; subst he7; clear hr7)
          rcases HR7.out.two with ⟨rfl, rfl, hlt7, τ7, hs7, ht7⟩ | ⟨r7, τ7, rfl, rfl, hs7, ht7, hd7⟩
          · have HFIN := Lib.hid (SpRes.full (F := ruleF r) (HK2.out.trans (HK5.out.trans HR7.out.1)) rfl (by have := HT5.out.hl; have := HM.out; omega) hs7 ((HT5.out.trans ht7).mono (show k * (1216 + K) + 1216 + K ≤ 5 * (1216 + K) by have := HM.out; omega) (show k * (1216 + K) + 1216 + K ≤ 5 * (1216 + K) by have := HM.out; omega)))
            clear hlt7 hs7 ht7
            go_wp2
            go_ret2
            exact HFIN.out
          · have HS7 := Lib.hid hs7
            have HT7 := Lib.hid ((HT5.out.trans ht7).mono (show k * (1216 + K) + 1216 + K ≤ (k + 1) * (1216 + K) by have := HM.out; omega) (show k * (1216 + K) + 1216 + K ≤ (k + 1) * (1216 + K) by have := HM.out; omega))
            have HD7 := Lib.hid hd7
            have HK7 := Lib.hid (HK5.out.trans HR7.out.1)
            clear hs7 ht7 hd7 HR7 HAN
            go_wp2
            exact ⟨⟨k + 1, by go_num, by omega, r7, τ7, rfl, HS7, HT7, HD7, HK7⟩, by simp only [intOf]; omega⟩
      · obtain rfl : k = 4 := by omega
        have hI : ¬ ((4 : Nat) : Int) < 4 := by omega
        have hfd := HDR.out
        have hrf : ruleF r = ruleK r 4 := by unfold ruleF; rw [HN.out]
        rw [← hrf] at hfd
        have HFIN : Hid (SpRes w B S km A Mo σ (ruleF r) (5 * (1216 + K)) (5 * (1216 + K)) (.returned (.tuple #[.int .i64 q, .int .i64 0])) wr) := Lib.hid ⟨HK2.out.trans HKR.out, .inr ⟨q, τ, rfl, HSR.out, HTR.out.mono (Nat.mul_le_mul_right _ (by omega)) (Nat.mul_le_mul_right _ (by omega)), hfd⟩⟩
        clear hfd hrf
        go_wp2
        go_ret2
        exact HFIN.out
end
end Go.Proofs.YthhcaoljejifeaaGreat

/-
  Rules that are the same but for what they say of headers that fit.
-/
namespace Go.Proofs.YthhcaoljejifeaaGreat
open Go Go.RowKit Go.ChangeMaps Go.MapKept Go.Maps Go.Lib Go.Sort

theorem eqPrefD (a m b n : Int) (d : Nat) (w : World) : (Op.equalIn (d + 1 + 1) 69 (.agg #[.int .u32 a, .int .i64 m]) (.agg #[.int .u32 b, .int .i64 n])).run Tryz.prog w = .ok (decide (a = b) && decide (m = n)) w := by
  have hS : Tryz.prog.underlying 69 = some (.struct (Tryz.prog.fieldsOf 69)) := by kernel_rfl
  have hp : Tryz.prog.stoodInHeld 69 = false := by kernel_rfl
  have a1 := Tryz.underlying43
  have a2 := Tryz.isAgg43
  have a3 := Tryz.sizeOf43
  have b1 := Tryz.underlying3
  have b2 := Tryz.isAgg3
  have b3 := Tryz.sizeOf3
  by_cases h1 : a = b
  · by_cases h2 : m = n
    · subst h1 h2
      rw [run_equalIn_agg w (d + 1) 69 _ _ hS hp]
      simp only [Program.fieldsOf, Tryz.underlying69]
      go_simp
    · subst h1
      rw [run_equalIn_agg w (d + 1) 69 _ _ hS hp]
      simp only [Program.fieldsOf, Tryz.underlying69]
      go_simp
  · rw [run_equalIn_agg w (d + 1) 69 _ _ hS hp]
    simp only [Program.fieldsOf, Tryz.underlying69]
    go_simp
theorem eqSpanD (a m b n : Int) (d : Nat) (w : World) : (Op.equalIn (d + 1 + 1) 66 (.agg #[.int .u32 a, .int .u32 m]) (.agg #[.int .u32 b, .int .u32 n])).run Tryz.prog w = .ok (decide (a = b) && decide (m = n)) w := by
  have hS : Tryz.prog.underlying 66 = some (.struct (Tryz.prog.fieldsOf 66)) := by kernel_rfl
  have hp : Tryz.prog.stoodInHeld 66 = false := by kernel_rfl
  have a1 := Tryz.underlying42
  have a2 := Tryz.isAgg42
  have a3 := Tryz.sizeOf42
  by_cases h1 : a = b
  · by_cases h2 : m = n
    · subst h1 h2
      rw [run_equalIn_agg w (d + 1) 66 _ _ hS hp]
      simp only [Program.fieldsOf, Tryz.underlying66]
      go_simp
    · subst h1
      rw [run_equalIn_agg w (d + 1) 66 _ _ hS hp]
      simp only [Program.fieldsOf, Tryz.underlying66]
      go_simp
  · rw [run_equalIn_agg w (d + 1) 66 _ _ hS hp]
    simp only [Program.fieldsOf, Tryz.underlying66]
    go_simp
/-- The same rule. -/
def sameR (x y : RuleV) : Bool := (x.permit == y.permit) && decide (x.proto = y.proto) && (decide (x.sa = y.sa) && decide (x.sn = y.sn)) && (decide (x.da = y.da) && decide (x.dn = y.dn)) && (decide (x.sl = y.sl) && decide (x.sh = y.sh)) && (decide (x.dl = y.dl) && decide (x.dh = y.dh))
theorem eqRuleD (x y : RuleV) (w : World) : (binOp .eql 71 (.agg #[.bool x.permit, .int .i64 x.proto, .int .u32 x.sa, .int .i64 x.sn, .int .u32 x.da, .int .i64 x.dn, .int .u32 x.sl, .int .u32 x.sh, .int .u32 x.dl, .int .u32 x.dh]) (.agg #[.bool y.permit, .int .i64 y.proto, .int .u32 y.sa, .int .i64 y.sn, .int .u32 y.da, .int .i64 y.dn, .int .u32 y.sl, .int .u32 y.sh, .int .u32 y.dl, .int .u32 y.dh])).run Tryz.prog w = .ok (.bool (sameR x y)) w := by
  have hS : Tryz.prog.underlying 71 = some (.struct (Tryz.prog.fieldsOf 71)) := by kernel_rfl
  have hp : Tryz.prog.stoodInHeld 71 = false := by kernel_rfl
  have b1 := Tryz.underlying3
  have b2 := Tryz.isAgg3
  have b3 := Tryz.sizeOf3
  have c1 := Tryz.underlying4
  have c2 := Tryz.isAgg4
  have c3 := Tryz.sizeOf4
  have d2 := Tryz.isAgg69
  have d3 := Tryz.sizeOf69
  have e2 := Tryz.isAgg66
  have e3 := Tryz.sizeOf66
  rw [run_eql_struct, show (10000 : Nat) = 9997 + 1 + 1 + 1 from rfl, run_equalIn_agg w (9997 + 1 + 1) 71 _ _ hS hp]
  generalize 9997 = d
  have E1 := fun w => eqPrefD x.sa x.sn y.sa y.sn d w
  have E2 := fun w => eqPrefD x.da x.dn y.da y.dn d w
  have E3 := fun w => eqSpanD x.sl x.sh y.sl y.sh d w
  have E4 := fun w => eqSpanD x.dl x.dh y.dl y.dh d w
  simp only [Program.fieldsOf, Tryz.underlying71]
  unfold sameR
  generalize (decide (x.sa = y.sa) && decide (x.sn = y.sn)) = P1 at *
  generalize (decide (x.da = y.da) && decide (x.dn = y.dn)) = P2 at *
  generalize (decide (x.sl = y.sl) && decide (x.sh = y.sh)) = P3 at *
  generalize (decide (x.dl = y.dl) && decide (x.dh = y.dh)) = P4 at *
  generalize x.permit = q1 at *
  generalize y.permit = q2 at *
  by_cases hq : q1 = q2
  · subst hq
    by_cases hp2 : x.proto = y.proto
    · rw [hp2]
      have e1 : (y.proto == y.proto) = true := by simp
      cases P1
      · cases q1 <;> go_simp
      · cases P2
        · cases q1 <;> go_simp
        · cases P3
          · cases q1 <;> go_simp
          · cases P4 <;> cases q1 <;> go_simp
    · have e1 : (x.proto == y.proto) = false := by simpa using hp2
      cases q1 <;> go_simp
  · cases q1 <;> cases q2
    · exact absurd rfl hq
    · go_simp
    · go_simp
    · exact absurd rfl hq
theorem rulesEq_any (x y : RuleV) (bx : Nat) (w : World) (hb : w.heap[bx]? = some (.cells #[.bool y.permit, .int .i64 y.proto, .int .u32 y.sa, .int .i64 y.sn, .int .u32 y.da, .int .i64 y.dn, .int .u32 y.sl, .int .u32 y.sh, .int .u32 y.dl, .int .u32 y.dh] 71 (0, 0))) :
    Calls Tryz.prog 40 #[.agg #[.bool x.permit, .int .i64 x.proto, .int .u32 x.sa, .int .i64 x.sn, .int .u32 x.da, .int .i64 x.dn, .int .u32 x.sl, .int .u32 x.sh, .int .u32 x.dl, .int .u32 x.dh], .pointer (some ⟨bx, 0, none⟩)] w fun e w' => e = .returned (.bool (sameR x y)) ∧ Below w.heap.size w w' := by
  have hbw := below1 w (.cells #[.bool x.permit, .int .i64 x.proto, .int .u32 x.sa, .int .i64 x.sn, .int .u32 x.da, .int .i64 x.dn, .int .u32 x.sl, .int .u32 x.sh, .int .u32 x.dl, .int .u32 x.dh] 71)
  have hk := blk1 w (.cells #[.bool x.permit, .int .i64 x.proto, .int .u32 x.sa, .int .i64 x.sn, .int .u32 x.da, .int .i64 x.dn, .int .u32 x.sl, .int .u32 x.sh, .int .u32 x.dl, .int .u32 x.dh] 71)
  have hy := blk_below hbw hb
  have HEQ := eqRuleD x y
  have HB := Lib.hid hbw
  go_enter Tryz.func40, Tryz.ntmps40
  go_upto_region 1 with fail
  clear hbw
  generalize w.alloc (.cells #[.bool x.permit, .int .i64 x.proto, .int .u32 x.sa, .int .i64 x.sn, .int .u32 x.da, .int .i64 x.dn, .int .u32 x.sl, .int .u32 x.sh, .int .u32 x.dl, .int .u32 x.dh] 71) = w1 at *
  have x0 : w1.cell? ⟨w.heap.size, 0, none⟩ = some (.bool x.permit) := cell_of_row _ _ 0 _ _ (0, 0) hk
  have x1 : w1.cell? ⟨w.heap.size, 1, none⟩ = some (.int .i64 x.proto) := cell_of_row _ _ 1 _ _ (0, 0) hk
  have x2 : w1.cell? ⟨w.heap.size, 2, none⟩ = some (.int .u32 x.sa) := cell_of_row _ _ 2 _ _ (0, 0) hk
  have x3 : w1.cell? ⟨w.heap.size, 3, none⟩ = some (.int .i64 x.sn) := cell_of_row _ _ 3 _ _ (0, 0) hk
  have x4 : w1.cell? ⟨w.heap.size, 4, none⟩ = some (.int .u32 x.da) := cell_of_row _ _ 4 _ _ (0, 0) hk
  have x5 : w1.cell? ⟨w.heap.size, 5, none⟩ = some (.int .i64 x.dn) := cell_of_row _ _ 5 _ _ (0, 0) hk
  have x6 : w1.cell? ⟨w.heap.size, 6, none⟩ = some (.int .u32 x.sl) := cell_of_row _ _ 6 _ _ (0, 0) hk
  have x7 : w1.cell? ⟨w.heap.size, 7, none⟩ = some (.int .u32 x.sh) := cell_of_row _ _ 7 _ _ (0, 0) hk
  have x8 : w1.cell? ⟨w.heap.size, 8, none⟩ = some (.int .u32 x.dl) := cell_of_row _ _ 8 _ _ (0, 0) hk
  have x9 : w1.cell? ⟨w.heap.size, 9, none⟩ = some (.int .u32 x.dh) := cell_of_row _ _ 9 _ _ (0, 0) hk
  have y0 : w1.cell? ⟨bx, 0, none⟩ = some (.bool y.permit) := cell_of_row _ _ 0 _ _ (0, 0) hy
  have y1 : w1.cell? ⟨bx, 1, none⟩ = some (.int .i64 y.proto) := cell_of_row _ _ 1 _ _ (0, 0) hy
  have y2 : w1.cell? ⟨bx, 2, none⟩ = some (.int .u32 y.sa) := cell_of_row _ _ 2 _ _ (0, 0) hy
  have y3 : w1.cell? ⟨bx, 3, none⟩ = some (.int .i64 y.sn) := cell_of_row _ _ 3 _ _ (0, 0) hy
  have y4 : w1.cell? ⟨bx, 4, none⟩ = some (.int .u32 y.da) := cell_of_row _ _ 4 _ _ (0, 0) hy
  have y5 : w1.cell? ⟨bx, 5, none⟩ = some (.int .i64 y.dn) := cell_of_row _ _ 5 _ _ (0, 0) hy
  have y6 : w1.cell? ⟨bx, 6, none⟩ = some (.int .u32 y.sl) := cell_of_row _ _ 6 _ _ (0, 0) hy
  have y7 : w1.cell? ⟨bx, 7, none⟩ = some (.int .u32 y.sh) := cell_of_row _ _ 7 _ _ (0, 0) hy
  have y8 : w1.cell? ⟨bx, 8, none⟩ = some (.int .u32 y.dl) := cell_of_row _ _ 8 _ _ (0, 0) hy
  have y9 : w1.cell? ⟨bx, 9, none⟩ = some (.int .u32 y.dh) := cell_of_row _ _ 9 _ _ (0, 0) hy
  clear hk hy hb
  go_wp2
  go_ret
  exact ⟨rfl, HB.out⟩
end Go.Proofs.YthhcaoljejifeaaGreat

/-
  A filter's rules, one behind the other: what is left, what each decides; the rows that the walk keeps.
-/
namespace Go.Proofs.YthhcaoljejifeaaGreat
open Go Go.RowKit Go.ChangeMaps Go.MapKept Go.Maps Go.Lib Go.Sort

def ruleAt (L : List RuleV) (k : Nat) : Fun := fun s => (L[k]?.map fun r => ruleF r s).getD false
/-- What the first k rules leave; what rule k decides. -/
def leftF (L : List RuleV) (k : Nat) : Fun := fun s => !(L.take k).any fun r => ruleF r s
def decF (L : List RuleV) (k : Nat) : Fun := fun s => leftF L k s && ruleAt L k s
theorem ruleAt_eq {L : List RuleV} {k : Nat} {r : RuleV} (h : L[k]? = some r) : ruleAt L k = ruleF r := funext fun s => by unfold ruleAt; rw [h]; rfl
theorem leftF_succ {L : List RuleV} {k : Nat} {r : RuleV} (h : L[k]? = some r) : leftF L (k + 1) = fun s => leftF L k s && !ruleF r s := funext fun s => by
  unfold leftF
  rw [List.take_add_one, h]
  simp [List.any_append]
theorem decF_eq {L : List RuleV} {k : Nat} {r : RuleV} (h : L[k]? = some r) : decF L k = fun s => leftF L k s && ruleF r s := funext fun s => by
  unfold decF
  rw [ruleAt_eq h]
theorem leftF_set (L : List RuleV) : ∀ k, SetF (leftF L k) := by
  intro k
  induction k with
  | zero => exact SetF.const true
  | succ k ih =>
    cases h : L[k]? with
    | none =>
      have e : leftF L (k + 1) = leftF L k := by unfold leftF; rw [List.take_add_one, h]; simp
      rw [e]; exact ih
    | some r =>
      rw [leftF_succ h]
      exact ih.op2 (fun x y => x && !y) (ruleK_set r _)
theorem decF_set {L : List RuleV} {k : Nat} {r : RuleV} (h : L[k]? = some r) : SetF (decF L k) := by
  rw [decF_eq h]
  exact (leftF_set L k).op2 (fun x y => x && y) (ruleK_set r _)
/-- A rule that denies, the same otherwise. -/
def anyR (r : RuleV) : RuleV := ⟨false, r.proto, r.sa, r.sn, r.da, r.dn, r.sl, r.sh, r.dl, r.dh, r.hpr, r.hsa, r.hda, r.hsl, r.hsh, r.hdl, r.hdh⟩
theorem askF_any (r : RuleV) : ∀ k, askF (anyR r) k = askF r k
  | 0 => rfl
  | 1 => rfl
  | 2 => rfl
  | 3 => rfl
  | _ + 4 => rfl
theorem ruleK_any (r : RuleV) : ∀ k, ruleK (anyR r) k = ruleK r k
  | 0 => rfl
  | k + 1 => by
    show (fun s => ruleK (anyR r) k s && askF (anyR r) k s) = fun s => ruleK r k s && askF r k s
    rw [ruleK_any r k, askF_any]
theorem ruleF_any (r : RuleV) : ruleF (anyR r) = ruleF r := ruleK_any r _
theorem sameR_eq {x y : RuleV} (h : sameR x y = true) : x = y := by
  unfold sameR at h
  simp only [Bool.and_eq_true, decide_eq_true_eq, beq_iff_eq] at h
  obtain ⟨⟨⟨⟨⟨h1, h2⟩, h3, h4⟩, h5, h6⟩, h7, h8⟩, h9, h10⟩ := h
  cases x; cases y
  simp only at h1 h2 h3 h4 h5 h6 h7 h8 h9 h10
  subst h1 h2 h3 h4 h5 h6 h7 h8 h9 h10
  rfl
/-- Nodes in a row. -/
def ncl (ns : List Nat) : List Value := ns.map fun (n : Nat) => Value.int .i64 (n : Int)
/-- The row's block is none of the space's. -/
def OwnF (A : Blks) (km S : Nat) (w : World) (v : Value) : Prop := ∀ g, v.ownBlock = some g → Foreign A w g ∧ g ≠ km ∧ g ≠ S
/-- A list that came in, in a block that is none of the space's. -/
def RdF (A : Blks) (km : Nat) (w : World) (k : Nat) (v : Value) (n : Nat) (xs : List Value) : Prop :=
  ∃ (P : Option Addr) (c : Nat), v = .slice P n c ∧ n ≤ c ∧ xs.length = n * k ∧ (0 < n → ∃ b off, P = some ⟨b, off, none⟩ ∧ Foreign A w b ∧ b ≠ km ∧ ∀ j u, xs[j]? = some u → w.cell? ⟨b, off + j, none⟩ = some u)
theorem RdF.rd {A : Blks} {km : Nat} {w : World} {k : Nat} {v : Value} {n : Nat} {xs : List Value} (h : RdF A km w k v n xs) : Rd w w.heap.size k v n xs := by
  obtain ⟨P, c, h1, h2, h3, h4⟩ := h
  exact ⟨P, c, h1, h2, h3, fun hn => by obtain ⟨b, off, e, f, _, g⟩ := h4 hn; exact ⟨b, off, e, f.1, g⟩⟩
theorem RdF.kept {A : Blks} {km : Nat} {w w' : World} {k : Nat} {v : Value} {n : Nat} {xs : List Value} (h : RdF A km w k v n xs) (hk : KeptS A km w w') : RdF A km w' k v n xs := by
  obtain ⟨P, c, h1, h2, h3, h4⟩ := h
  refine ⟨P, c, h1, h2, h3, fun hn => ?_⟩
  obtain ⟨b, off, e, f, f2, g⟩ := h4 hn
  exact ⟨b, off, e, (hk.same b f f2).2, f2, fun j u hu => (World.cell?_of_block (hk.same b f f2).1).trans (g j u hu)⟩
section
variable {w0 wr : World} {B S km : Nat} {A : Blks} {Mo : Nat} {τ : Sg}
/-- The space where blocks of others turned. -/
theorem SpOk.others {w w' : World} (h : SpOk w B S km A Mo τ) {r : Option Nat} (hg : w.grownBy w' r) (hr : ∀ g, r = some g → Foreign A w g ∧ g ≠ km ∧ g ≠ S) :
    SpOk w' B S km A Mo τ ∧ (∀ k, Foreign A w k → Foreign A w' k) ∧ ∀ k, w.heap.size ≤ k → k < w'.heap.size → Foreign A w' k ∧ k ≠ km ∧ k ≠ S := by
  obtain ⟨nv, hA⟩ := h.sp.ar
  obtain ⟨a1, a2, a3⟩ := hA.calm hg.size fun k hk hn => hg.block k hk (fun e => hn (hr k e.symm).1)
  have hkm := h.sp.fk.1
  have hS := lt_of_block h.sp.cells
  exact ⟨⟨⟨⟨nv, a1⟩, (hg.block S hS (fun e => (hr S e.symm).2.2 rfl)).trans h.sp.cells, a2 _ h.sp.fs, h.sp.known.same (hg.block km hkm (fun e => (hr km e.symm).2.1 rfl)), a2 _ h.sp.fk, h.sp.ne⟩, h.ok⟩, a2, fun k h1 h2 => ⟨a3 k h1 h2, by omega, by omega⟩⟩
theorem KeptS.others {w w' w0 : World} (h : KeptS A km w0 w) {r : Option Nat} (hg : w.grownBy w' r) (hs : ∀ g, r = some g → w0.heap.size ≤ g) (hf : ∀ k, Foreign A w k → Foreign A w' k) : KeptS A km w0 w' :=
  ⟨hg.os.trans h.os, hg.tape.trans h.tape, hg.output.trans h.output, Nat.le_trans h.size hg.size, fun k hk hn => ⟨(hg.block k (Nat.lt_of_lt_of_le hk.1 h.size) (fun e => by have := hs k e.symm; have := hk.1; omega)).trans (h.same k hk hn).1, hf k (h.same k hk hn).2⟩⟩
/-- What the walk of the rules keeps: the space, the row of what is decided, the row of the rules that were seen. -/
structure RuSt (w0 wr : World) (B S km : Nat) (A : Blks) (Mo : Nat) (τ : Sg) (ov : Value) (ns : List Nat) (sv : Value) (D : List RuleV) : Prop where
  sp : SpOk wr B S km A Mo τ
  kept : KeptS A km w0 wr
  out : wr.ownsRow w0.heap.size 3 1 ov ns.length (ncl ns)
  outf : OwnF A km S wr ov
  seen : wr.ownsRow w0.heap.size 71 10 sv D.length (rcells D)
  seenf : OwnF A km S wr sv
  dis : ∀ g, ov.ownBlock = some g → sv.ownBlock ≠ some g
theorem RuSt.space {ov sv : Value} {ns : List Nat} {D : List RuleV} {w' : World} {τ' : Sg} (h : RuSt w0 wr B S km A Mo τ ov ns sv D) (k : KeptS A km wr w') (s : SpOk w' B S km A Mo τ') : RuSt w0 w' B S km A Mo τ' ov ns sv D :=
  ⟨s, h.kept.trans k, owns_like h.out fun g hg => (k.same g (h.outf g hg).1 (h.outf g hg).2.1).1, fun g hg => ⟨(k.same g (h.outf g hg).1 (h.outf g hg).2.1).2, (h.outf g hg).2⟩,
    owns_like h.seen fun g hg => (k.same g (h.seenf g hg).1 (h.seenf g hg).2.1).1, fun g hg => ⟨(k.same g (h.seenf g hg).1 (h.seenf g hg).2.1).2, (h.seenf g hg).2⟩, h.dis⟩
theorem RuSt.below {ov sv : Value} {ns : List Nat} {D : List RuleV} {w' : World} (h : RuSt w0 wr B S km A Mo τ ov ns sv D) (hb : Below wr.heap.size wr w') : RuSt w0 w' B S km A Mo τ ov ns sv D := h.space (h.sp.kept hb) (h.sp.below hb)
theorem RuSt.start (h : SpOk w0 B S km A Mo τ) : RuSt w0 w0 B S km A Mo τ (.slice none 0 0) [] (.slice none 0 0) [] :=
  ⟨h, KeptS.refl _ _ _, World.ownsRow_nil _ _ _ _, fun g hg => by simp [Value.ownBlock] at hg, World.ownsRow_nil _ _ _ _, fun g hg => by simp [Value.ownBlock] at hg, fun g hg => by simp [Value.ownBlock] at hg⟩
theorem OwnF.pushed {w w' : World} {v v' : Value} (h : OwnF A km S w v) (hf : ∀ k, Foreign A w k → Foreign A w' k) (hn : ∀ k, w.heap.size ≤ k → k < w'.heap.size → Foreign A w' k ∧ k ≠ km ∧ k ≠ S) (hm : Moved v v' w.heap.size) (hl : ∀ g, v'.ownBlock = some g → g < w'.heap.size) : OwnF A km S w' v' := fun g hg => by
  rcases hm with hm | hm
  · have := h g (by rw [← hm]; exact hg)
    exact ⟨hf g this.1, this.2⟩
  · exact hn g (hm g hg) (hl g hg)
theorem RuSt.pushOut {ov sv ov' : Value} {ns : List Nat} {D : List RuleV} {w' : World} {n : Nat} (h : RuSt w0 wr B S km A Mo τ ov ns sv D) (ho : w'.ownsRow w0.heap.size 3 1 ov' (ns.length + 1) (ncl ns ++ [.int .i64 (n : Int)])) (hg : wr.grownBy w' ov.ownBlock) (hm : Moved ov ov' wr.heap.size) :
    RuSt w0 w' B S km A Mo τ ov' (ns ++ [n]) sv D := by
  obtain ⟨s1, s2, s3⟩ := h.sp.others hg h.outf
  have hk := h.kept.others hg (fun g hg => (h.out.lt g hg).1) s2
  have hsame : ∀ g, sv.ownBlock = some g → w'.heap[g]? = wr.heap[g]? := fun g hgs => hg.block g (h.seen.lt g hgs).2 (fun e => h.dis g e.symm hgs)
  refine ⟨s1, hk, ?_, h.outf.pushed s2 s3 hm (fun g hg => (ho.lt g hg).2), owns_like h.seen hsame, fun g hgs => ⟨s2 g (h.seenf g hgs).1, (h.seenf g hgs).2⟩, fun g hgo hgs => ?_⟩
  · rw [List.length_append]
    have e : ncl (ns ++ [n]) = ncl ns ++ [.int .i64 (n : Int)] := by simp [ncl]
    rw [e]
    exact ho
  · rcases hm with hm | hm
    · exact h.dis g (by rw [← hm]; exact hgo) hgs
    · have := hm g hgo
      have := (h.seen.lt g hgs).2
      omega
theorem RuSt.pushSeen {ov sv sv' : Value} {ns : List Nat} {D : List RuleV} {w' : World} {r : RuleV} (h : RuSt w0 wr B S km A Mo τ ov ns sv D) (ho : w'.ownsRow w0.heap.size 71 10 sv' (D.length + 1) (rcells D ++ r.enc)) (hg : wr.grownBy w' sv.ownBlock) (hm : Moved sv sv' wr.heap.size) :
    RuSt w0 w' B S km A Mo τ ov ns sv' (D ++ [r]) := by
  obtain ⟨s1, s2, s3⟩ := h.sp.others hg h.seenf
  have hk := h.kept.others hg (fun g hg => (h.seen.lt g hg).1) s2
  have hsame : ∀ g, ov.ownBlock = some g → w'.heap[g]? = wr.heap[g]? := fun g hgo => hg.block g (h.out.lt g hgo).2 (fun e => h.dis g hgo e.symm)
  refine ⟨s1, hk, owns_like h.out hsame, fun g hgo => ⟨s2 g (h.outf g hgo).1, (h.outf g hgo).2⟩, ?_, h.seenf.pushed s2 s3 hm (fun g hg => (ho.lt g hg).2), fun g hgo hgs => ?_⟩
  · rw [List.length_append]
    have e : rcells (D ++ [r]) = rcells D ++ r.enc := by simp [rcells]
    rw [e]
    exact ho
  · rcases hm with hm | hm
    · exact h.dis g hgo (by rw [← hm]; exact hgs)
    · have := hm g hgs
      have := (h.out.lt g hgo).2
      omega
end
end Go.Proofs.YthhcaoljejifeaaGreat

/-
  The sets for which each rule of a filter decides (written by wip/gen/genfr5.py).
-/
namespace Go.Proofs.YthhcaoljejifeaaGreat
open Go Go.RowKit Go.ChangeMaps Go.MapKept Go.Maps Go.Lib Go.Sort

/-- What Rules comes to: a node for each rule, or no room. -/
def RulesRes (w : World) (B S km : Nat) (A : Blks) (Mo : Nat) (σ : Sg) (L : List RuleV) (k : Nat) (e : Ending) (w' : World) : Prop :=
  KeptS A km w w' ∧ ((e = .returned (.tuple #[.slice none 0 0, .int .i64 3]) ∧ Mo < σ.H.length + k ∧ ∃ τ, SpOk w' B S km A Mo τ ∧ To k k σ τ) ∨
    ∃ (v : Value) (ns : List Nat) (τ : Sg), e = .returned (.tuple #[v, .int .i64 0]) ∧ SpOk w' B S km A Mo τ ∧ To k k σ τ ∧ ns.length = L.length ∧ (∀ i n, ns[i]? = some n → Den τ n (decF L i)) ∧ w'.ownsRow w.heap.size 3 1 v ns.length (ncl ns) ∧ OwnF A km S w' v)
theorem RulesRes.full {w w' : World} {B S km : Nat} {A : Blks} {Mo : Nat} {σ τ : Sg} {L : List RuleV} {k : Nat} {e : Ending} (hk : KeptS A km w w') (h1 : e = .returned (.tuple #[.slice none 0 0, .int .i64 3])) (h2 : Mo < σ.H.length + k) (h3 : SpOk w' B S km A Mo τ) (h4 : To k k σ τ) : RulesRes w B S km A Mo σ L k e w' := ⟨hk, .inl ⟨h1, h2, τ, h3, h4⟩⟩
/-- How much a filter's diagrams may take, rule by rule. -/
def FiltW (L : List RuleV) (K : Nat) : Prop := ∀ (k : Nat) (r : RuleV), L[k]? = some r → (∀ j, j ≤ 5 → Wid (ruleK r j) K) ∧ Wid (decF L k) K ∧ Wid (leftF L (k + 1)) K
theorem rule_may {L : List RuleV} (he : filtE L = 0) : L.length ≤ 256 ∧ ∀ (k : Nat) (r : RuleV), L[k]? = some r → RuleOk r := by
  unfold filtE at he
  split at he
  · cases he
  · split at he
    · cases he
    · rename_i h1 h2
      refine ⟨by omega, fun k r hr => RuleOk.of ?_⟩
      simp only [List.any_eq_true, not_exists, not_and, Bool.not_eq_true'] at h2
      have := h2 r (List.mem_of_getElem? hr)
      simpa using this
theorem den_snoc {τ : Sg} {ns : List Nat} {F : Nat → Fun} {k n : Nat} (h : ∀ i m, ns[i]? = some m → Den τ m (F i)) (hk : ns.length = k) (hd : Den τ n (F k)) : ∀ i m, (ns ++ [n])[i]? = some m → Den τ m (F i) := fun i m hi => by
  rcases Nat.lt_or_ge i ns.length with h1 | h1
  · rw [List.getElem?_append_left h1] at hi
    exact h i m hi
  · rw [List.getElem?_append_right h1] at hi
    have h2 : i = ns.length := by
      have := (List.getElem?_eq_some_iff.1 hi).1
      simp at this
      omega
    subst h2
    rw [Nat.sub_self] at hi
    simp at hi
    subst hi
    rw [hk]
    exact hd
theorem rulesEq_pred (y : RuleV) (bx : Nat) (w : World) (hb : w.heap[bx]? = some (.cells #[.bool y.permit, .int .i64 y.proto, .int .u32 y.sa, .int .i64 y.sn, .int .u32 y.da, .int .i64 y.dn, .int .u32 y.sl, .int .u32 y.sh, .int .u32 y.dl, .int .u32 y.dh] 71 (0, 0))) : PredBelow Tryz.prog 40 #[.pointer (some ⟨bx, 0, none⟩)] (fun x : RuleV => .agg x.enc.toArray) (fun x => sameR x y) w := fun W x hW =>
  (rulesEq_any x y bx W (blk_below hW hb)).mono fun _ _ ⟨he, hb'⟩ => ⟨he, hW.trans (hb'.mono hW.size)⟩
theorem Tryz.infoRuleF : (Tryz.prog.info? 71).map (fun i => (i.zero, i.size, i.bytes)) = some (some (.agg #[.bool false, .int .i64 0, .int .u32 0, .int .i64 0, .int .u32 0, .int .i64 0, .int .u32 0, .int .u32 0, .int .u32 0, .int .u32 0]), 10, 64) := by kernel_rfl
section
variable {w : World} {B S km : Nat} {A : Blks} {Mo : Nat} {σ : Sg}
set_option maxRecDepth 100000
set_option maxHeartbeats 8000000
theorem rules_yes (h : SpOk w B S km A Mo σ) (nm : ByteArray) (L : List RuleV) (vL : Value) (hL : RdF A km w 10 vL L.length (rcells L)) (he : filtE L = 0) (K : Nat) (hK : FiltW L K) (hl : σ.N.length + L.length * (6080 + 7 * K) ≤ 2147483647) :
    Calls Tryz.prog 21 #[.pointer (some ⟨S, 0, none⟩), .agg #[.string nm, vL]] w (RulesRes w B S km A Mo σ L (L.length * (6080 + 7 * K))) := by
  obtain ⟨hlen, hmay⟩ := rule_may he
  obtain ⟨i0, hif, hz0, hz1, hz2⟩ := info_parts Tryz.infoInt
  obtain ⟨j0, jif, jz0, jz1, jz2⟩ := info_parts Tryz.infoRuleF
  obtain ⟨PL, cL, rfl, _⟩ := hL.rd.form
  have hbw := below1 w (.cells #[.string nm, .slice PL L.length cL] 54)
  have hbk := blk1 w (.cells #[.string nm, .slice PL L.length cL] 54)
  have HL := Lib.hid (hL.kept (h.kept hbw))
  have HS := Lib.hid (h.below hbw)
  have HK0 := Lib.hid (h.kept hbw)
  have HB0 := Lib.hid hbw
  have HBK := Lib.hid hbk
  have HWK := Lib.hid hK
  have HMAY := Lib.hid hmay
  have b0 : (w.alloc (.cells #[.string nm, .slice PL L.length cL] 54)).cell? ⟨w.heap.size, 0, none⟩ = some (.string nm) := cell_of_row _ _ 0 _ _ (0, 0) hbk
  have b1 : (w.alloc (.cells #[.string nm, .slice PL L.length cL] 54)).cell? ⟨w.heap.size, 1, none⟩ = some (.slice PL L.length cL) := cell_of_row _ _ 1 _ _ (0, 0) hbk
  have hck := filtCheck_any nm L _ _ HL.out.rd
  rw [he] at hck
  have HCK := Lib.hid hck
  clear h hL he hbw hbk hK hmay hck
  go_enter Tryz.func21, Tryz.ntmps21
  go_upto_region 1 with fail
  generalize w.alloc (.cells #[.string nm, .slice PL L.length cL] 54) = w0 at *
  go_upto_region 6 with ((with_reducible refine HCK.out.mono ?_); rintro e w2 ⟨rfl, hb2⟩; have HB2 := Lib.hid hb2; clear hb2)
  have HS2 := Lib.hid (HS.out.below HB2.out)
  have HK2 := Lib.hid (HK0.out.trans (HS.out.kept HB2.out))
  have HL2 := Lib.hid (HL.out.kept (HS.out.kept HB2.out))
  have HSZ : Hid (w.heap.size ≤ w2.heap.size) := Lib.hid (Nat.le_trans HB0.out.size HB2.out.size)
  have d1 : w2.cell? ⟨w.heap.size, 1, none⟩ = some (.slice PL L.length cL) := cell_of_row _ _ 1 _ _ (0, 0) (blk_below HB2.out HBK.out)
  clear b0 b1 HCK HB2 HS HL HK0 HBK HB0
  go_wp2
  go_loopw [7, 8, 9, 26] (fun q ov sv i wr => ∃ k : Nat, i = .int .i64 k ∧ k ≤ L.length ∧ ∃ (n : Nat) (τ : Sg) (ns : List Nat) (D : List RuleV), q = .int .i64 n ∧ Hid (RuSt w2 wr B S km A Mo τ ov ns sv D) ∧ Hid (ns.length = k) ∧ Hid (To (k * (6080 + 7 * K)) (k * (6080 + 7 * K)) σ τ) ∧ Hid (Den τ n (leftF L k)) ∧ Hid (∀ i m, ns[i]? = some m → Den τ m (decF L i)) ∧ Hid (D.length ≤ k ∧ ∀ d ∈ D, ∃ j x, j < k ∧ L[j]? = some x ∧ ruleF d = ruleF x)) (fun _ _ _ i _ => L.length - (intOf i).toNat)
  case atStart => exact ⟨0, rfl, by omega, 1, σ, [], [], rfl, Lib.hid (RuSt.start HS2.out), Lib.hid rfl, Lib.hid (by rw [Nat.zero_mul]; exact To.refl σ), Lib.hid (Den.one HS2.out.ok), Lib.hid (by simp), Lib.hid ⟨by simp, by simp⟩⟩
  case round =>
    obtain ⟨k, rfl, hk, n, τ, ns, D, rfl, HR, HNS, HT, HD, HDS, HDD⟩ := hrel
    obtain ⟨Ao, co, hove, _⟩ := owns_form HR.out.out
    obtain ⟨As, cs, hsve, _⟩ := owns_form HR.out.seen
    subst hove hsve
    by_cases hlt : k < L.length
    · have hI : (k : Int) < (L.length : Int) := by omega
      obtain ⟨r, hr⟩ : ∃ r, L[k]? = some r := ⟨_, List.getElem?_eq_getElem hlt⟩
      obtain ⟨P', c', hv', _, _, hcell⟩ := HL2.out.kept HR.out.kept
      injection hv' with hP hlq hcq
      subst hP hcq
      clear hlq
      obtain ⟨bL, off, rfl, _, _, hcell⟩ := hcell (by omega)
      have r0 : wr.cell? ⟨bL, off + k * 10, none⟩ = some (.bool r.permit) := hcell (k * 10) _ (rcell (i := 0) hr rfl)
      have r1 : wr.cell? ⟨bL, off + k * 10 + 1, none⟩ = some (.int .i64 r.proto) := by have := hcell (k * 10 + 1) _ (rcell (i := 1) hr rfl); rwa [← Nat.add_assoc] at this
      have r2 : wr.cell? ⟨bL, off + k * 10 + 2, none⟩ = some (.int .u32 r.sa) := by have := hcell (k * 10 + 2) _ (rcell (i := 2) hr rfl); rwa [← Nat.add_assoc] at this
      have r3 : wr.cell? ⟨bL, off + k * 10 + 3, none⟩ = some (.int .i64 r.sn) := by have := hcell (k * 10 + 3) _ (rcell (i := 3) hr rfl); rwa [← Nat.add_assoc] at this
      have r4 : wr.cell? ⟨bL, off + k * 10 + 4, none⟩ = some (.int .u32 r.da) := by have := hcell (k * 10 + 4) _ (rcell (i := 4) hr rfl); rwa [← Nat.add_assoc] at this
      have r5 : wr.cell? ⟨bL, off + k * 10 + 5, none⟩ = some (.int .i64 r.dn) := by have := hcell (k * 10 + 5) _ (rcell (i := 5) hr rfl); rwa [← Nat.add_assoc] at this
      have r6 : wr.cell? ⟨bL, off + k * 10 + 6, none⟩ = some (.int .u32 r.sl) := by have := hcell (k * 10 + 6) _ (rcell (i := 6) hr rfl); rwa [← Nat.add_assoc] at this
      have r7 : wr.cell? ⟨bL, off + k * 10 + 7, none⟩ = some (.int .u32 r.sh) := by have := hcell (k * 10 + 7) _ (rcell (i := 7) hr rfl); rwa [← Nat.add_assoc] at this
      have r8 : wr.cell? ⟨bL, off + k * 10 + 8, none⟩ = some (.int .u32 r.dl) := by have := hcell (k * 10 + 8) _ (rcell (i := 8) hr rfl); rwa [← Nat.add_assoc] at this
      have r9 : wr.cell? ⟨bL, off + k * 10 + 9, none⟩ = some (.int .u32 r.dh) := by have := hcell (k * 10 + 9) _ (rcell (i := 9) hr rfl); rwa [← Nat.add_assoc] at this
      have HRR := Lib.hid hr
      have hok := HMAY.out k r hr
      have hwk := HWK.out k r hr
      have HOK := Lib.hid (And.intro hok hwk)
      have hm1 : (k + 1) * (6080 + 7 * K) ≤ L.length * (6080 + 7 * K) := Nat.mul_le_mul_right _ hlt
      have hm2 : (k + 1) * (6080 + 7 * K) = k * (6080 + 7 * K) + (6080 + 7 * K) := by rw [Nat.add_mul, Nat.one_mul]
      have HM := Lib.hid (And.intro hm1 hm2)
      clear hcell hr hok hwk hm1 hm2
      go_upto_region 13 with fail
      have hb3 := below2 wr (.cells #[.bool r.permit, .int .i64 r.proto, .int .u32 r.sa, .int .i64 r.sn, .int .u32 r.da, .int .i64 r.dn, .int .u32 r.sl, .int .u32 r.sh, .int .u32 r.dl, .int .u32 r.dh] 71) (.cells #[.bool r.permit, .int .i64 r.proto, .int .u32 r.sa, .int .i64 r.sn, .int .u32 r.da, .int .i64 r.dn, .int .u32 r.sl, .int .u32 r.sh, .int .u32 r.dl, .int .u32 r.dh] 71)
      have hs3 : (wr.alloc (.cells #[.bool r.permit, .int .i64 r.proto, .int .u32 r.sa, .int .i64 r.sn, .int .u32 r.da, .int .i64 r.dn, .int .u32 r.sl, .int .u32 r.sh, .int .u32 r.dl, .int .u32 r.dh] 71)).heap.size = wr.heap.size + 1 := by simp
      have ka := blk_below (below1 (wr.alloc (.cells #[.bool r.permit, .int .i64 r.proto, .int .u32 r.sa, .int .i64 r.sn, .int .u32 r.da, .int .i64 r.dn, .int .u32 r.sl, .int .u32 r.sh, .int .u32 r.dl, .int .u32 r.dh] 71)) (.cells #[.bool r.permit, .int .i64 r.proto, .int .u32 r.sa, .int .i64 r.sn, .int .u32 r.da, .int .i64 r.dn, .int .u32 r.sl, .int .u32 r.sh, .int .u32 r.dl, .int .u32 r.dh] 71)) (blk1 wr (.cells #[.bool r.permit, .int .i64 r.proto, .int .u32 r.sa, .int .i64 r.sn, .int .u32 r.da, .int .i64 r.dn, .int .u32 r.sl, .int .u32 r.sh, .int .u32 r.dl, .int .u32 r.dh] 71))
      have kb := blk1 (wr.alloc (.cells #[.bool r.permit, .int .i64 r.proto, .int .u32 r.sa, .int .i64 r.sn, .int .u32 r.da, .int .i64 r.dn, .int .u32 r.sl, .int .u32 r.sh, .int .u32 r.dl, .int .u32 r.dh] 71)) (.cells #[.bool r.permit, .int .i64 r.proto, .int .u32 r.sa, .int .i64 r.sn, .int .u32 r.da, .int .i64 r.dn, .int .u32 r.sl, .int .u32 r.sh, .int .u32 r.dl, .int .u32 r.dh] 71)
      rw [hs3] at kb
      have HR3 := Lib.hid (HR.out.below hb3)
      have HB3 := Lib.hid hb3
      have HA3 := Lib.hid ka
      clear hs3 hb3 r0 r1 r2 r3 r4 r5 r6 r7 r8 r9
      generalize (wr.alloc (.cells #[.bool r.permit, .int .i64 r.proto, .int .u32 r.sa, .int .i64 r.sn, .int .u32 r.da, .int .i64 r.dn, .int .u32 r.sl, .int .u32 r.sh, .int .u32 r.dl, .int .u32 r.dh] 71)).alloc (.cells #[.bool r.permit, .int .i64 r.proto, .int .u32 r.sa, .int .i64 r.sn, .int .u32 r.da, .int .i64 r.dn, .int .u32 r.sl, .int .u32 r.sh, .int .u32 r.dl, .int .u32 r.dh] 71) = w3 at *
      have fz := frozen_of_row w3 _ 0 _ _ kb
      have cz : w3.cell? ⟨wr.heap.size + 1, 0, none⟩ = some (.bool r.permit) := cell_of_row _ _ 0 _ _ (0, 0) kb
      have st : ∀ k, k ≠ wr.heap.size + 1 → (w3.setCell ⟨wr.heap.size + 1, 0, none⟩ (.bool false)).heap[k]? = w3.heap[k]? := fun k hk => Below.heap_setCell w3 ⟨wr.heap.size + 1, 0, none⟩ _ k hk
      have hsz : (w3.setCell ⟨wr.heap.size + 1, 0, none⟩ (.bool false)).heap.size = w3.heap.size := by simp [World.setCell]
      have hb4 : Below wr.heap.size wr (w3.setCell ⟨wr.heap.size + 1, 0, none⟩ (.bool false)) := ⟨HB3.out.os, HB3.out.tape, HB3.out.output, by have := HB3.out.size; omega, fun k hk => (st k (by omega)).trans (HB3.out.block k hk)⟩
      have kb4 : (w3.setCell ⟨wr.heap.size + 1, 0, none⟩ (.bool false)).heap[wr.heap.size + 1]? = some (.cells #[.bool (anyR r).permit, .int .i64 (anyR r).proto, .int .u32 (anyR r).sa, .int .i64 (anyR r).sn, .int .u32 (anyR r).da, .int .i64 (anyR r).dn, .int .u32 (anyR r).sl, .int .u32 (anyR r).sh, .int .u32 (anyR r).dl, .int .u32 (anyR r).dh] 71 (0, 0)) := heap_setCell_same _ _ _ _ _ _ kb
      have ka4 := (st wr.heap.size (by omega)).trans ka
      have HR4 := Lib.hid (HR.out.below hb4)
      have HKA := Lib.hid ka4
      have HKB := Lib.hid kb4
      have HB4 := Lib.hid hb4
      clear st hsz hb4 kb4 ka4 ka kb HR3 HB3 HA3
      go_upto_region 14 with fail
      clear fz cz
      generalize w3.setCell ⟨wr.heap.size + 1, 0, none⟩ (.bool false) = w4 at *
      have HCON := Lib.hid (containsRule_any D _ (fun x => sameR x (anyR r)) 40 #[.pointer (some ⟨wr.heap.size + 1, 0, none⟩)] w4 (enters_of Tryz.func40 (by kernel_rfl) rfl) (rulesEq_pred (anyR r) _ w4 HKB.out) (Rd.of_own HR4.out.seen) (by have := HDD.out.1; omega))
      have HANY := Lib.hid (show D.any (fun x => sameR x (anyR r)) = true → leftF L (k + 1) = leftF L k ∧ decF L k = fun _ => false from fun ha => by
        obtain ⟨d, hd, hs⟩ := List.any_eq_true.1 ha
        obtain ⟨j, x, hj, hx, hdx⟩ := HDD.out.2 d hd
        have he := sameR_eq hs
        subst he
        rw [ruleF_any] at hdx
        have hsub : ∀ s, ruleF r s = true → leftF L k s = false := fun s hs => by
          unfold leftF
          rw [Bool.not_eq_false', List.any_eq_true]
          refine ⟨x, List.mem_of_getElem? (i := j) (by rw [List.getElem?_take_of_lt hj]; exact hx), ?_⟩
          rw [← hdx]; exact hs
        refine ⟨?_, ?_⟩
        · rw [leftF_succ HRR.out]
          funext s
          cases h : ruleF r s
          · simp
          · rw [hsub s h]; rfl
        · rw [decF_eq HRR.out]
          funext s
          cases h : ruleF r s
          · simp
          · rw [hsub s h]; rfl)
      generalize hB : D.any (fun x => sameR x (anyR r)) = Bv at *
      clear hB
      go_wp2_with fail
      refine HCON.out.mono ?_
      rintro e w5 ⟨rfl, hb5⟩
      have HR5 := Lib.hid (HR4.out.below hb5)
      have HKA5 := Lib.hid (blk_below hb5 HKA.out)
      have HKB5 := Lib.hid (blk_below hb5 HKB.out)
      have HB5 := Lib.hid (HB4.out.trans (hb5.mono HB4.out.size))
      have hbs := HR5.out.kept.size
      have hnl := HNS.out
      have hml : ns.length ≤ 1099511627776 := by omega
      clear hb5 HR4 HKA HKB HB4 HCON hnl
      cases Bv with
      | true =>
        obtain ⟨hlf, hdf⟩ := HANY.out rfl
        have HLF := Lib.hid hlf
        have HDF := Lib.hid hdf
        clear hlf hdf HANY
        go_wp2_with (at_builtin; refine wpList_push2 (v := .slice Ao ns.length co) rfl _ _ 37 rfl 3 i0 _ 1 8 Tryz.underlying37 hif hz0 hz1 hz2 rfl (by decide) (by decide) [.int .i64 0] rfl rfl rfl HR5.out.out rfl (one_i64 _) hml hbs ?_; intro v6 w6 ho6 hg6 hm6; have HR6 := Lib.hid (HR5.out.pushOut (n := 0) ho6 hg6 hm6); obtain ⟨A6, c6, hv6, _⟩ := owns_form ho6; subst hv6; clear ho6 hg6 hm6)
        exact ⟨⟨k + 1, by go_num, by omega, n, τ, ns ++ [0], D, rfl, HR6, Lib.hid (by simp [HNS.out]), Lib.hid (HT.out.mono (by have := HM.out; omega) (by have := HM.out; omega)), Lib.hid (by rw [HLF.out]; exact HD.out), Lib.hid (den_snoc HDS.out HNS.out (by rw [HDF.out]; exact Den.zero HR6.out.sp.ok)), Lib.hid ⟨by have := HDD.out.1; omega, fun d hd => by obtain ⟨j, x, h1, h2, h3⟩ := HDD.out.2 d hd; exact ⟨j, x, by omega, h2, h3⟩⟩⟩, by simp only [intOf]; omega⟩
      | false =>
        clear HANY
        have a0 : w5.cell? ⟨wr.heap.size + 1, 0, none⟩ = some (.bool (anyR r).permit) := cell_of_row _ _ 0 _ _ (0, 0) HKB5.out
        have a1 : w5.cell? ⟨wr.heap.size + 1, 1, none⟩ = some (.int .i64 (anyR r).proto) := cell_of_row _ _ 1 _ _ (0, 0) HKB5.out
        have a2 : w5.cell? ⟨wr.heap.size + 1, 2, none⟩ = some (.int .u32 (anyR r).sa) := cell_of_row _ _ 2 _ _ (0, 0) HKB5.out
        have a3 : w5.cell? ⟨wr.heap.size + 1, 3, none⟩ = some (.int .i64 (anyR r).sn) := cell_of_row _ _ 3 _ _ (0, 0) HKB5.out
        have a4 : w5.cell? ⟨wr.heap.size + 1, 4, none⟩ = some (.int .u32 (anyR r).da) := cell_of_row _ _ 4 _ _ (0, 0) HKB5.out
        have a5 : w5.cell? ⟨wr.heap.size + 1, 5, none⟩ = some (.int .i64 (anyR r).dn) := cell_of_row _ _ 5 _ _ (0, 0) HKB5.out
        have a6 : w5.cell? ⟨wr.heap.size + 1, 6, none⟩ = some (.int .u32 (anyR r).sl) := cell_of_row _ _ 6 _ _ (0, 0) HKB5.out
        have a7 : w5.cell? ⟨wr.heap.size + 1, 7, none⟩ = some (.int .u32 (anyR r).sh) := cell_of_row _ _ 7 _ _ (0, 0) HKB5.out
        have a8 : w5.cell? ⟨wr.heap.size + 1, 8, none⟩ = some (.int .u32 (anyR r).dl) := cell_of_row _ _ 8 _ _ (0, 0) HKB5.out
        have a9 : w5.cell? ⟨wr.heap.size + 1, 9, none⟩ = some (.int .u32 (anyR r).dh) := cell_of_row _ _ 9 _ _ (0, 0) HKB5.out
        have hdl : D.length ≤ 1099511627776 := by have := HDD.out.1; omega
        have HLTS := Lib.hid (fun g hg => (HR.out.seen.lt g hg).2)
        go_upto_region 17 with (at_builtin; refine wpList_push2 (v := .slice As D.length cs) rfl _ _ 52 rfl 71 j0 _ 10 64 Tryz.underlying52 jif jz0 jz1 jz2 rfl (by decide) (by decide) (anyR r).enc rfl rfl rfl HR5.out.seen rfl (by intro u hu; simp only [RuleV.enc, List.mem_cons, List.not_mem_nil, or_false] at hu; rcases hu with rfl | rfl | rfl | rfl | rfl | rfl | rfl | rfl | rfl | rfl <;> rfl) hdl hbs ?_; intro v6 w6 ho6 hg6 hm6; have HR6 := Lib.hid (HR5.out.pushSeen ho6 hg6 hm6); have HKA6 := Lib.hid ((hg6.block _ (lt_of_block HKA5.out) (fun e => by have := HLTS.out _ e.symm; omega)).trans HKA5.out); obtain ⟨A6, c6, hv6, _⟩ := owns_form ho6; subst hv6; clear ho6 hg6 hm6)
        clear a0 a1 a2 a3 a4 a5 a6 a7 a8 a9 HKA5 HKB5 HR5 HLTS hdl hbs
        have e0 : w6.cell? ⟨wr.heap.size, 0, none⟩ = some (.bool r.permit) := cell_of_row _ _ 0 _ _ (0, 0) HKA6.out
        have e1 : w6.cell? ⟨wr.heap.size, 1, none⟩ = some (.int .i64 r.proto) := cell_of_row _ _ 1 _ _ (0, 0) HKA6.out
        have e2 : w6.cell? ⟨wr.heap.size, 2, none⟩ = some (.int .u32 r.sa) := cell_of_row _ _ 2 _ _ (0, 0) HKA6.out
        have e3 : w6.cell? ⟨wr.heap.size, 3, none⟩ = some (.int .i64 r.sn) := cell_of_row _ _ 3 _ _ (0, 0) HKA6.out
        have e4 : w6.cell? ⟨wr.heap.size, 4, none⟩ = some (.int .u32 r.da) := cell_of_row _ _ 4 _ _ (0, 0) HKA6.out
        have e5 : w6.cell? ⟨wr.heap.size, 5, none⟩ = some (.int .i64 r.dn) := cell_of_row _ _ 5 _ _ (0, 0) HKA6.out
        have e6 : w6.cell? ⟨wr.heap.size, 6, none⟩ = some (.int .u32 r.sl) := cell_of_row _ _ 6 _ _ (0, 0) HKA6.out
        have e7 : w6.cell? ⟨wr.heap.size, 7, none⟩ = some (.int .u32 r.sh) := cell_of_row _ _ 7 _ _ (0, 0) HKA6.out
        have e8 : w6.cell? ⟨wr.heap.size, 8, none⟩ = some (.int .u32 r.dl) := cell_of_row _ _ 8 _ _ (0, 0) HKA6.out
        have e9 : w6.cell? ⟨wr.heap.size, 9, none⟩ = some (.int .u32 r.dh) := cell_of_row _ _ 9 _ _ (0, 0) HKA6.out
        have hnl := HT.out.nl
        have hm := HM.out
        have HRU := Lib.hid (rule_yes HR6.out.sp r HOK.out.1 K HOK.out.2.1 (by omega))
        clear hnl hm HKA6
        go_upto_region 18 with ((with_reducible refine HRU.out.mono ?_); rintro e w7 hr7; obtain ⟨q7, c7, he7⟩ := hr7.form; have HR7 := Lib.hid hr7; subst he7; clear hr7)
        clear e0 e1 e2 e3 e4 e5 e6 e7 e8 e9
        rcases HR7.out.two with ⟨rfl, rfl, hlt7, τ7, hs7, ht7⟩ | ⟨r7, τ7, rfl, rfl, hs7, ht7, hd7⟩
        · have HFIN := Lib.hid (RulesRes.full (L := L) (HK2.out.trans (HR6.out.kept.trans HR7.out.1)) rfl (by have := HT.out.hl; have := HM.out; omega) hs7 ((HT.out.trans ht7).mono (show k * (6080 + 7 * K) + 5 * (1216 + K) ≤ L.length * (6080 + 7 * K) by have := HM.out; omega) (show k * (6080 + 7 * K) + 5 * (1216 + K) ≤ L.length * (6080 + 7 * K) by have := HM.out; omega)))
          clear hlt7 hs7 ht7
          go_wp2
          go_ret2
          exact HFIN.out
        · have HS7 := Lib.hid (HR6.out.space HR7.out.1 hs7)
          have HT7 := Lib.hid (HT.out.trans ht7)
          have HD7 := Lib.hid hd7
          have HL7 := Lib.hid (HD.out.to ht7 HR6.out.sp.ok hs7.ok)
          have HDS7 : Hid (∀ i m, ns[i]? = some m → Den τ7 m (decF L i)) := Lib.hid fun i m hi => (HDS.out i m hi).to ht7 HR6.out.sp.ok hs7.ok
          have hnl := HT7.out.nl
          have hm := HM.out
          have hde : decF L k = fun s => leftF L k s && ruleF r s := decF_eq HRR.out
          have hwd := HOK.out.2.2.1
          rw [hde] at hwd
          have HAN := Lib.hid (show Calls Tryz.prog 42 #[.pointer (some ⟨S, 0, none⟩), .int .i64 n, .int .i64 r7] w7 (SpRes w7 B S km A Mo τ7 (fun s => leftF L k s && ruleF r s) K K) from relAnd_yes hs7 HL7.out hd7 (leftF_set L k) (ruleK_set r _) (a := K) (b := K) (Grow.wid hs7.ok.wf.two hwd) (by omega))
          have HDE := Lib.hid hde
          clear hs7 ht7 hd7 HR7 HRU hnl hm hde hwd
          go_upto_region 21 with ((with_reducible refine HAN.out.mono ?_); rintro e w8 hr8; obtain ⟨q8, c8, he8⟩ := hr8.form; have HR8 := Lib.hid hr8; subst he8; clear hr8)
          rcases HR8.out.two with ⟨rfl, rfl, hlt8, τ8, hs8, ht8⟩ | ⟨r8, τ8, rfl, rfl, hs8, ht8, hd8⟩
          · have HFIN := Lib.hid (RulesRes.full (L := L) (HK2.out.trans (HS7.out.kept.trans HR8.out.1)) rfl (by have := HT7.out.hl; have := HM.out; omega) hs8 ((HT7.out.trans ht8).mono (show k * (6080 + 7 * K) + 5 * (1216 + K) + K ≤ L.length * (6080 + 7 * K) by have := HM.out; omega) (show k * (6080 + 7 * K) + 5 * (1216 + K) + K ≤ L.length * (6080 + 7 * K) by have := HM.out; omega)))
            clear hlt8 hs8 ht8
            go_wp2
            go_ret2
            exact HFIN.out
          · have HS8 := Lib.hid (HS7.out.space HR8.out.1 hs8)
            have HT8 := Lib.hid (HT7.out.trans ht8)
            have HD8 : Hid (Den τ8 r8 (decF L k)) := Lib.hid (by rw [HDE.out]; exact hd8)
            have HX8 := Lib.hid (HD7.out.to ht8 HS7.out.sp.ok hs8.ok)
            have HL8 := Lib.hid (HL7.out.to ht8 HS7.out.sp.ok hs8.ok)
            have HDS8 : Hid (∀ i m, ns[i]? = some m → Den τ8 m (decF L i)) := Lib.hid fun i m hi => (HDS7.out i m hi).to ht8 HS7.out.sp.ok hs8.ok
            have hnl := HT8.out.nl
            have hm := HM.out
            have hde : leftF L (k + 1) = fun s => leftF L k s && !ruleF r s := leftF_succ HRR.out
            have hwd := HOK.out.2.2.2
            rw [hde] at hwd
            have HLE := Lib.hid (show Calls Tryz.prog 17 #[.pointer (some ⟨S, 0, none⟩), .int .i64 n, .int .i64 r7] w8 (SpRes w8 B S km A Mo τ8 (fun s => leftF L k s && !ruleF r s) K K) from relLess_yes hs8 HL8.out HX8.out (leftF_set L k) (ruleK_set r _) (a := K) (b := K) (Grow.wid hs8.ok.wf.two hwd) (by omega))
            have HDE2 := Lib.hid hde
            clear hs8 ht8 hd8 HR8 HAN hnl hm hde hwd HDS7 HL7 HD7 HS7 HT7 HDE
            go_upto_region 24 with ((with_reducible refine HLE.out.mono ?_); rintro e w9 hr9; obtain ⟨q9, c9, he9⟩ := hr9.form; have HR9 := Lib.hid hr9; subst he9; clear hr9)
            rcases HR9.out.two with ⟨rfl, rfl, hlt9, τ9, hs9, ht9⟩ | ⟨r9, τ9, rfl, rfl, hs9, ht9, hd9⟩
            · have HFIN := Lib.hid (RulesRes.full (L := L) (HK2.out.trans (HS8.out.kept.trans HR9.out.1)) rfl (by have := HT8.out.hl; have := HM.out; omega) hs9 ((HT8.out.trans ht9).mono (show k * (6080 + 7 * K) + 5 * (1216 + K) + K + K ≤ L.length * (6080 + 7 * K) by have := HM.out; omega) (show k * (6080 + 7 * K) + 5 * (1216 + K) + K + K ≤ L.length * (6080 + 7 * K) by have := HM.out; omega)))
              clear hlt9 hs9 ht9
              go_wp2
              go_ret2
              exact HFIN.out
            · have HS9 := Lib.hid (HS8.out.space HR9.out.1 hs9)
              have HT9 := Lib.hid ((HT8.out.trans ht9).mono (show k * (6080 + 7 * K) + 5 * (1216 + K) + K + K ≤ (k + 1) * (6080 + 7 * K) by have := HM.out; omega) (show k * (6080 + 7 * K) + 5 * (1216 + K) + K + K ≤ (k + 1) * (6080 + 7 * K) by have := HM.out; omega))
              have HD9 : Hid (Den τ9 r9 (leftF L (k + 1))) := Lib.hid (by rw [HDE2.out]; exact hd9)
              have HX9 := Lib.hid (HD8.out.to ht9 HS8.out.sp.ok hs9.ok)
              have HDS9 : Hid (∀ i m, ns[i]? = some m → Den τ9 m (decF L i)) := Lib.hid fun i m hi => (HDS8.out i m hi).to ht9 HS8.out.sp.ok hs9.ok
              have hbs := HS9.out.kept.size
              clear hs9 ht9 hd9 HR9 HLE HS8 HT8 HD8 HX8 HL8 HDS8 HDE2
              go_wp2_with (at_builtin; refine wpList_push2 (v := .slice Ao ns.length co) rfl _ _ 37 rfl 3 i0 _ 1 8 Tryz.underlying37 hif hz0 hz1 hz2 rfl (by decide) (by decide) [.int .i64 r8] rfl rfl rfl HS9.out.out rfl (one_i64 _) hml hbs ?_; intro v10 w10 ho10 hg10 hm10; have HR10 := Lib.hid (HS9.out.pushOut (n := r8) ho10 hg10 hm10); obtain ⟨A10, c10, hv10, _⟩ := owns_form ho10; subst hv10; clear ho10 hg10 hm10)
              exact ⟨⟨k + 1, by go_num, by omega, r9, τ9, ns ++ [r8], D ++ [anyR r], rfl, HR10, Lib.hid (by simp [HNS.out]), HT9, HD9, Lib.hid (den_snoc HDS9.out HNS.out HX9.out), Lib.hid ⟨by have := HDD.out.1; simp; omega, fun d hd => by
                rcases List.mem_append.1 hd with hd | hd
                · obtain ⟨j, x, h1, h2, h3⟩ := HDD.out.2 d hd
                  exact ⟨j, x, by omega, h2, h3⟩
                · obtain rfl := List.mem_singleton.1 hd
                  exact ⟨k, r, by omega, HRR.out, ruleF_any r⟩⟩⟩, by simp only [intOf]; omega⟩
    · obtain rfl : k = L.length := by omega
      have hI : ¬ (L.length : Int) < (L.length : Int) := by omega
      have HFIN : Hid (RulesRes w B S km A Mo σ L (L.length * (6080 + 7 * K)) (.returned (.tuple #[.slice Ao ns.length co, .int .i64 0])) wr) := Lib.hid ⟨HK2.out.trans HR.out.kept, .inr ⟨_, ns, τ, rfl, HR.out.sp, HT.out, HNS.out, HDS.out, owns_base HR.out.out HSZ.out, HR.out.outf⟩⟩
      go_wp2
      go_ret2
      exact HFIN.out
end
end Go.Proofs.YthhcaoljejifeaaGreat

/-
  What a filter permits, as a set; the refusals.
-/
namespace Go.Proofs.YthhcaoljejifeaaGreat
open Go Go.RowKit Go.ChangeMaps Go.MapKept Go.Maps Go.Lib Go.Sort

def permitAt (L : List RuleV) (k : Nat) : Bool := (L[k]?.map (·.permit)).getD false
/-- What the first k rules permit. -/
def setF (L : List RuleV) : Nat → Fun
  | 0 => fun _ => false
  | k + 1 => if permitAt L k then fun s => setF L k s || decF L k s else setF L k
theorem decF_set' (L : List RuleV) (k : Nat) : SetF (decF L k) := by
  cases h : L[k]? with
  | none =>
    have e : decF L k = fun _ => false := funext fun s => by unfold decF ruleAt; rw [h]; simp
    rw [e]
    exact SetF.const false
  | some r => exact decF_set h
theorem setF_set (L : List RuleV) : ∀ k, SetF (setF L k)
  | 0 => SetF.const false
  | k + 1 => by
    unfold setF
    split
    · exact (setF_set L k).op2 (fun x y => x || y) (decF_set' L k)
    · exact setF_set L k
section
variable {w : World} {B S km : Nat} {A : Blks} {Mo : Nat} {σ : Sg}
set_option maxRecDepth 100000
set_option maxHeartbeats 8000000
end
end Go.Proofs.YthhcaoljejifeaaGreat

/-
  Rules as boxes: how many nodes their sets have at most (plain).
-/
namespace Go.Proofs.YthhcaoljejifeaaGreat
open Go Go.RowKit Go.ChangeMaps Go.MapKept Go.Maps Go.Lib Go.Sort

/-- A box of headers. -/
structure Bx where
  l1 : Nat
  p1 : Nat
  l2 : Nat
  p2 : Nat
  any : Bool
  v : Nat
  lo : Nat
  hi : Nat
  lo2 : Nat
  hi2 : Nat
def boxP (b : Bx) (s : Nat → Bool) : Bool := (valF 0 s 32 / 2 ^ (32 - b.l1) == b.p1) && (valF 32 s 32 / 2 ^ (32 - b.l2) == b.p2) && (b.any || valF 64 s 8 == b.v) && (decide (b.lo ≤ valF 72 s 16) && decide (valF 72 s 16 ≤ b.hi)) && (decide (b.lo2 ≤ valF 88 s 16) && decide (valF 88 s 16 ≤ b.hi2))
def boxFs (B : Nat → Bx) : List Fd := [preFd 0 32 (fun i => (B i).l1) (fun i => (B i).p1), preFd 32 32 (fun i => (B i).l2) (fun i => (B i).p2), ptFd 64 8 (fun i => (B i).any) (fun i => (B i).v), ivFd 72 16 (fun i => (B i).lo) (fun i => (B i).hi), ivFd 88 16 (fun i => (B i).lo2) (fun i => (B i).hi2)]
theorem box_alive (B : Nat → Bx) (T : List Nat) (s : Nat → Bool) : aliveL (boxFs B) T s = T.filter fun i => boxP (B i) s := by
  show ((((T.filter _).filter _).filter _).filter _).filter _ = _
  simp only [List.filter_filter]
  refine List.filter_congr fun i _ => ?_
  simp only [ivFd, ptFd, preFd, ivP, ptP, preP, boxP]
  generalize (valF 0 s 32 / 2 ^ (32 - (B i).l1) == (B i).p1) = a
  generalize (valF 32 s 32 / 2 ^ (32 - (B i).l2) == (B i).p2) = b
  generalize ((B i).any || valF 64 s 8 == (B i).v) = c
  generalize (decide ((B i).lo ≤ valF 72 s 16) && decide (valF 72 s 16 ≤ (B i).hi)) = d
  generalize (decide ((B i).lo2 ≤ valF 88 s 16) && decide (valF 88 s 16 ≤ (B i).hi2)) = e
  cases a <;> cases b <;> cases c <;> cases d <;> cases e <;> rfl
/-- The bound for k boxes. -/
def bW (k : Nat) : Nat := 32 * (1 * k) + (32 * (1 * preL idN k) + (8 * (1 * preL (preL idN) k) + (16 * (2 * preL (preL (ptL idN)) k) + (16 * (2 * preL (preL (ptL (ivL idN))) k) + 0))))
theorem box_wid (B : Nat → Bx) (T : List Nat) (Φ : List Nat → Bool) : WidB (fun s => Φ (T.filter fun i => boxP (B i) s)) (bW T.length) := by
  have h := widB_box (fs := boxFs B) (by simp [boxFs, preFd, ptFd, ivFd]) (fun f hf => by
    simp only [boxFs, List.mem_cons, List.not_mem_nil, or_false] at hf
    rcases hf with rfl | rfl | rfl | rfl | rfl
    · exact preFd_ok ..
    · exact preFd_ok ..
    · exact ptFd_ok ..
    · exact ivFd_ok ..
    · exact ivFd_ok ..) T Φ
  rw [show (fun s => Φ (aliveL (boxFs B) T s)) = fun s => Φ (T.filter fun i => boxP (B i) s) from funext fun s => by rw [box_alive]] at h
  exact h
theorem bW_mono : Mono bW := fun i j h => by
  unfold bW
  have h1 := preL_mono (w := idN) i j h
  have h2 := preL_mono (w := preL idN) i j h
  have h3 := preL_mono (w := preL (ptL idN)) i j h
  have h4 := preL_mono (w := preL (ptL (ivL idN))) i j h
  omega
/-! The bits' functions, by the fields' numbers. -/
theorem tailF_head (a : Nat) (s : Nat → Bool) (m : Nat) : ∀ d, tailF a s m (d + 1) = (if s (2 * (a + m)) then 1 else 0) * 2 ^ d + tailF a s (m + 1) d
  | 0 => by simp [tailF]
  | d + 1 => by
    have ih := tailF_head a s m d
    show 2 * tailF a s m (d + 1) + (if s (2 * (a + m + (d + 1))) then 1 else 0) = _ + (2 * tailF a s (m + 1) d + (if s (2 * (a + (m + 1) + d)) then 1 else 0))
    rw [ih, show a + m + (d + 1) = a + (m + 1) + d by omega, Nat.pow_succ, ← Nat.mul_assoc]
    omega
theorem mod_bit (v m : Nat) : v % 2 ^ (m + 1) = (if v.testBit m then 1 else 0) * 2 ^ m + v % 2 ^ m := by
  rw [Nat.mod_pow_succ, Nat.testBit_eq_decide_div_mod_eq]
  rcases Nat.mod_two_eq_zero_or_one (v / 2 ^ m) with h | h <;> simp [h] <;> omega
theorem bits_tail (a n v : Nat) (s : Nat → Bool) : ∀ m, m ≤ n → bitsF a 0 n v m s = (tailF a s (n - m) m == v % 2 ^ m)
  | 0, _ => by simp [bitsF, tailF, Nat.mod_one]
  | m + 1, hm => by
    have ih := bits_tail a n v s m (by omega)
    show ((s (2 * (a + (n - 1 - m)) + 0) == v.testBit m) && bitsF a 0 n v m s) = _
    rw [ih, show n - m = (n - (m + 1)) + 1 by omega, tailF_head, show n - 1 - m = n - (m + 1) by omega, mod_bit, Nat.add_zero]
    have h1 := tailF_lt a s (n - (m + 1) + 1) m
    have h2 := Nat.mod_lt v (Nat.two_pow_pos m)
    generalize tailF a s (n - (m + 1) + 1) m = x at *
    generalize v % 2 ^ m = y at *
    generalize 2 ^ m = z at *
    cases hs : s (2 * (a + (n - (m + 1)))) <;> cases hv : v.testBit m <;> rw [Bool.eq_iff_iff] <;> simp
    all_goals omega
theorem bits_val (a n v : Nat) (s : Nat → Bool) (hn : n ≤ 32) (hv : v < 2 ^ n) : bitsF a 0 n v n s = (valF a s 32 / 2 ^ (32 - n) == v) := by
  rw [bits_tail a n v s n (Nat.le_refl _), Nat.sub_self, Nat.mod_eq_of_lt hv]
  have h1 := valF_split a s n (32 - n)
  rw [show n + (32 - n) = 32 by omega] at h1
  have h2 := valF_split a s 0 n
  rw [Nat.zero_add] at h2
  have h3 : valF a s n = tailF a s 0 n := by rw [h2]; show 0 * 2 ^ n + _ = _; omega
  rw [h1, Nat.mul_comm, Nat.mul_add_div (Nat.two_pow_pos _), Nat.div_eq_of_lt (tailF_lt ..), Nat.add_zero, h3]
theorem reach_tail (a n v : Nat) (up : Bool) (s : Nat → Bool) : ∀ m, m ≤ n → reachF a n v up m s = if up then decide (v % 2 ^ m ≤ tailF a s (n - m) m) else decide (tailF a s (n - m) m ≤ v % 2 ^ m)
  | 0, _ => by simp [reachF, tailF, Nat.mod_one]
  | m + 1, hm => by
    have ih := reach_tail a n v up s m (by omega)
    show (if s (2 * (a + (n - 1 - m))) then (if v.testBit m then reachF a n v up m s else up) else (if v.testBit m then !up else reachF a n v up m s)) = _
    rw [ih, show n - m = (n - (m + 1)) + 1 by omega, tailF_head, show n - 1 - m = n - (m + 1) by omega, mod_bit]
    have h1 := tailF_lt a s (n - (m + 1) + 1) m
    have h2 := Nat.mod_lt v (Nat.two_pow_pos m)
    generalize tailF a s (n - (m + 1) + 1) m = x at *
    generalize v % 2 ^ m = y at *
    generalize 2 ^ m = z at *
    cases hs : s (2 * (a + (n - (m + 1)))) <;> cases hv : v.testBit m <;> cases up <;> simp
    all_goals omega
theorem span_val (a n lo hi : Nat) (s : Nat → Bool) (hl : lo < 2 ^ n) (hh : hi < 2 ^ n) : spanF a n lo hi s = (decide (lo ≤ valF a s n) && decide (valF a s n ≤ hi)) := by
  have h2 := valF_split a s 0 n
  rw [Nat.zero_add] at h2
  have h3 : valF a s n = tailF a s 0 n := by rw [h2]; show 0 * 2 ^ n + _ = _; omega
  unfold spanF
  rw [reach_tail a n lo true s n (Nat.le_refl _), reach_tail a n hi false s n (Nat.le_refl _), Nat.sub_self, Nat.mod_eq_of_lt hl, Nat.mod_eq_of_lt hh, h3]
  rfl
/-- The first j of a rule's asks, as a box. -/
def rbx (r : RuleV) (j : Nat) : Bx where
  l1 := if 1 ≤ j then r.sn.toNat else 0
  p1 := if 1 ≤ j then r.sa.toNat / 2 ^ (32 - r.sn.toNat) else 0
  l2 := if 2 ≤ j then r.dn.toNat else 0
  p2 := if 2 ≤ j then r.da.toNat / 2 ^ (32 - r.dn.toNat) else 0
  any := decide (¬ 5 ≤ j)
  v := r.proto.toNat
  lo := if 3 ≤ j then r.sl.toNat else 0
  hi := if 3 ≤ j then r.sh.toNat else 65535
  lo2 := if 4 ≤ j then r.dl.toNat else 0
  hi2 := if 4 ≤ j then r.dh.toNat else 65535
theorem pre_top (a len : Nat) (h : len ≤ 32) (ha : a < 4294967296) : a / 2 ^ (32 - len) < 2 ^ len := by
  rw [Nat.div_lt_iff_lt_mul (Nat.two_pow_pos _), ← Nat.pow_add, show len + (32 - len) = 32 by omega]
  exact ha
theorem rbx_eq {r : RuleV} (ok : RuleOk r) {j : Nat} (hj : j ≤ asksN r) (s : Nat → Bool) : boxP (rbx r j) s = ruleK r j s := by
  have h5 : j ≤ 5 := by unfold asksN at hj; split at hj <;> omega
  have b1 := r.hsa
  have b2 := r.hda
  have b3 := r.hsl
  have b4 := r.hdl
  have o1 := ok.s.2
  have o2 := ok.d.2
  have o3 := ok.sp
  have o4 := ok.dp
  have o5 := ok.p
  have v1 := valF_lt 0 s 32
  have v2 := valF_lt 32 s 32
  have v4 := valF_lt 72 s 16
  have v5 := valF_lt 88 s 16
  have a0 : askF r 0 s = (valF 0 s 32 / 2 ^ (32 - r.sn.toNat) == r.sa.toNat / 2 ^ (32 - r.sn.toNat)) := bits_val _ _ _ _ (by omega) (pre_top _ _ (by omega) (by omega))
  have a1 : askF r 1 s = (valF 32 s 32 / 2 ^ (32 - r.dn.toNat) == r.da.toNat / 2 ^ (32 - r.dn.toNat)) := bits_val _ _ _ _ (by omega) (pre_top _ _ (by omega) (by omega))
  have a2 : askF r 2 s = (decide (r.sl.toNat ≤ valF 72 s 16) && decide (valF 72 s 16 ≤ r.sh.toNat)) := span_val _ _ _ _ _ (by show _ < 65536; omega) (by show _ < 65536; omega)
  have a3 : askF r 3 s = (decide (r.dl.toNat ≤ valF 88 s 16) && decide (valF 88 s 16 ≤ r.dh.toNat)) := span_val _ _ _ _ _ (by show _ < 65536; omega) (by show _ < 65536; omega)
  have a4 : askF r 4 s = (valF 64 s 8 == r.proto.toNat) := by
    refine (span_val 64 8 _ _ s (by show _ < 256; omega) (by show _ < 256; omega)).trans ?_
    rw [Bool.eq_iff_iff]
    simp only [Bool.and_eq_true, decide_eq_true_eq, beq_iff_eq]
    omega
  have z1 : (valF 0 s 32 / 2 ^ (32 - 0) == 0) = true := by rw [Nat.div_eq_of_lt (by simpa using v1)]; rfl
  have z2 : (valF 32 s 32 / 2 ^ (32 - 0) == 0) = true := by rw [Nat.div_eq_of_lt (by simpa using v2)]; rfl
  have z4 : decide (valF 72 s 16 ≤ 65535) = true := by simp; omega
  have z5 : decide (valF 88 s 16 ≤ 65535) = true := by simp; omega
  have z6 : ∀ n : Nat, decide (0 ≤ n) = true := fun n => by simp
  obtain rfl | rfl | rfl | rfl | rfl | rfl : j = 0 ∨ j = 1 ∨ j = 2 ∨ j = 3 ∨ j = 4 ∨ j = 5 := by omega
  · show (((valF 0 s 32 / 2 ^ (32 - 0) == 0) && (valF 32 s 32 / 2 ^ (32 - 0) == 0) && true && (decide (0 ≤ valF 72 s 16) && decide (valF 72 s 16 ≤ 65535)) && (decide (0 ≤ valF 88 s 16) && decide (valF 88 s 16 ≤ 65535))) : Bool) = true
    rw [z1, z2, z4, z5, z6, z6]; rfl
  · show (((valF 0 s 32 / 2 ^ (32 - r.sn.toNat) == r.sa.toNat / 2 ^ (32 - r.sn.toNat)) && (valF 32 s 32 / 2 ^ (32 - 0) == 0) && true && (decide (0 ≤ valF 72 s 16) && decide (valF 72 s 16 ≤ 65535)) && (decide (0 ≤ valF 88 s 16) && decide (valF 88 s 16 ≤ 65535))) : Bool) = (true && askF r 0 s)
    rw [z2, z4, z5, z6, z6, a0]; simp
  · show (((valF 0 s 32 / 2 ^ (32 - r.sn.toNat) == r.sa.toNat / 2 ^ (32 - r.sn.toNat)) && (valF 32 s 32 / 2 ^ (32 - r.dn.toNat) == r.da.toNat / 2 ^ (32 - r.dn.toNat)) && true && (decide (0 ≤ valF 72 s 16) && decide (valF 72 s 16 ≤ 65535)) && (decide (0 ≤ valF 88 s 16) && decide (valF 88 s 16 ≤ 65535))) : Bool) = (true && askF r 0 s && askF r 1 s)
    rw [z4, z5, z6, z6, a0, a1]; simp
  · show (((valF 0 s 32 / 2 ^ (32 - r.sn.toNat) == r.sa.toNat / 2 ^ (32 - r.sn.toNat)) && (valF 32 s 32 / 2 ^ (32 - r.dn.toNat) == r.da.toNat / 2 ^ (32 - r.dn.toNat)) && true && (decide (r.sl.toNat ≤ valF 72 s 16) && decide (valF 72 s 16 ≤ r.sh.toNat)) && (decide (0 ≤ valF 88 s 16) && decide (valF 88 s 16 ≤ 65535))) : Bool) = (true && askF r 0 s && askF r 1 s && askF r 2 s)
    rw [z5, z6, a0, a1, a2]; simp
  · show (((valF 0 s 32 / 2 ^ (32 - r.sn.toNat) == r.sa.toNat / 2 ^ (32 - r.sn.toNat)) && (valF 32 s 32 / 2 ^ (32 - r.dn.toNat) == r.da.toNat / 2 ^ (32 - r.dn.toNat)) && true && (decide (r.sl.toNat ≤ valF 72 s 16) && decide (valF 72 s 16 ≤ r.sh.toNat)) && (decide (r.dl.toNat ≤ valF 88 s 16) && decide (valF 88 s 16 ≤ r.dh.toNat))) : Bool) = (true && askF r 0 s && askF r 1 s && askF r 2 s && askF r 3 s)
    rw [a0, a1, a2, a3]; simp
  · show (((valF 0 s 32 / 2 ^ (32 - r.sn.toNat) == r.sa.toNat / 2 ^ (32 - r.sn.toNat)) && (valF 32 s 32 / 2 ^ (32 - r.dn.toNat) == r.da.toNat / 2 ^ (32 - r.dn.toNat)) && (false || valF 64 s 8 == r.proto.toNat) && (decide (r.sl.toNat ≤ valF 72 s 16) && decide (valF 72 s 16 ≤ r.sh.toNat)) && (decide (r.dl.toNat ≤ valF 88 s 16) && decide (valF 88 s 16 ≤ r.dh.toNat))) : Bool) = (true && askF r 0 s && askF r 1 s && askF r 2 s && askF r 3 s && askF r 4 s)
    rw [a0, a1, a2, a3, a4]
    generalize (valF 0 s 32 / 2 ^ (32 - r.sn.toNat) == r.sa.toNat / 2 ^ (32 - r.sn.toNat)) = a
    generalize (valF 32 s 32 / 2 ^ (32 - r.dn.toNat) == r.da.toNat / 2 ^ (32 - r.dn.toNat)) = b
    generalize (valF 64 s 8 == r.proto.toNat) = c
    generalize (decide (r.sl.toNat ≤ valF 72 s 16) && decide (valF 72 s 16 ≤ r.sh.toNat)) = d
    generalize (decide (r.dl.toNat ≤ valF 88 s 16) && decide (valF 88 s 16 ≤ r.dh.toNat)) = e
    cases a <;> cases b <;> cases c <;> cases d <;> cases e <;> rfl
/-- A rule's own function, by the first j asks. -/
theorem ruleK_widB {r : RuleV} (ok : RuleOk r) {j : Nat} (hj : j ≤ asksN r) : WidB (ruleK r j) (bW 1) := by
  have h := box_wid (fun _ => rbx r j) [0] fun l => !l.isEmpty
  rw [show (fun s => !(([0] : List Nat).filter fun _ => boxP (rbx r j) s).isEmpty) = ruleK r j from funext fun s => by
    rw [← rbx_eq ok hj s]
    cases hb : boxP (rbx r j) s <;> simp] at h
  exact h
/-- Which of the rules hold a header. -/
def hits (L : List RuleV) (T : List Nat) (s : Nat → Bool) : List Nat := T.filter fun i => ruleAt L i s
theorem hits_widB {L : List RuleV} (ok : ∀ (k : Nat) (r : RuleV), L[k]? = some r → RuleOk r) (T : List Nat) (hT : ∀ i ∈ T, i < L.length) (Φ : List Nat → Bool) : WidB (fun s => Φ (hits L T s)) (bW T.length) := by
  have h := box_wid (fun i => match L[i]? with | some r => rbx r (asksN r) | none => ⟨0, 0, 0, 0, true, 0, 0, 0, 0, 0⟩) T Φ
  refine (congrArg (fun F => WidB F (bW T.length)) (funext fun s => ?_)).mp h
  congr 1
  refine List.filter_congr fun i hi => ?_
  obtain ⟨r, hr⟩ : ∃ r, L[i]? = some r := ⟨_, List.getElem?_eq_getElem (hT i hi)⟩
  rw [ruleAt_eq hr, hr]
  exact rbx_eq (ok i r hr) (Nat.le_refl _) s
theorem hits_range (L : List RuleV) (k : Nat) (s : Nat → Bool) : leftF L k s = (hits L (List.range k) s).isEmpty := by
  rw [Bool.eq_iff_iff]
  unfold leftF hits
  rw [Bool.not_eq_true', List.any_eq_false, List.isEmpty_iff, List.filter_eq_nil_iff]
  constructor
  · intro h i hi
    unfold ruleAt
    cases hr : L[i]? with
    | none => simp
    | some r =>
      have := h r (List.mem_iff_getElem?.2 ⟨i, by rw [List.getElem?_take_of_lt (List.mem_range.1 hi)]; exact hr⟩)
      simpa using this
  · intro h r hr
    obtain ⟨i, hi⟩ := List.mem_iff_getElem?.1 hr
    have hik : i < k := by
      have := (List.getElem?_eq_some_iff.1 hi).1
      rw [List.length_take] at this
      omega
    rw [List.getElem?_take_of_lt hik] at hi
    have := h i (List.mem_range.2 hik)
    rw [ruleAt_eq hi] at this
    exact this
end Go.Proofs.YthhcaoljejifeaaGreat

/-
  A rule's set, its cost told by the sharp bound (written by wip/gen/genfc.py).
-/
namespace Go.Proofs.YthhcaoljejifeaaGreat
open Go Go.RowKit Go.ChangeMaps Go.MapKept Go.Maps Go.Lib Go.Sort

/-- A function that takes c nodes at most, or has a node. -/
def Fits (σ : Sg) (F : Fun) (c : Nat) : Prop := WidB F c ∨ ∃ g, Den σ g F
theorem Fits.grow {σ τ : Sg} {F : Fun} {c k m Mo Mo' : Nat} (h : Fits σ F c) (t : To k m σ τ) (o : SgOk Mo σ) (p : SgOk Mo' τ) : Grow τ.N τ.H F c c := by
  rcases h with h | ⟨g, h⟩
  · exact Grow.widB p.wf.two h
  · exact ((h.to t o p).grow p).mono (Nat.zero_le _) (Nat.zero_le _)
theorem Fits.to {σ τ : Sg} {F : Fun} {c k m Mo Mo' : Nat} (h : Fits σ F c) (t : To k m σ τ) (o : SgOk Mo σ) (p : SgOk Mo' τ) : Fits τ F c := h.imp id fun ⟨g, h⟩ => ⟨g, h.to t o p⟩
theorem sumTo_up (c : Nat → Nat) {i j : Nat} (h : i ≤ j) : sumTo c i ≤ sumTo c j := by
  induction h with
  | refl => exact Nat.le_refl _
  | step _ ih => exact Nat.le_trans ih (Nat.le_add_right _ _)
def rcst (cd cl : Nat → Nat) (k : Nat) : Nat := 6760 + cd k + cl k
section
variable {w : World} {B S km : Nat} {A : Blks} {Mo : Nat} {σ : Sg}
set_option maxRecDepth 100000
set_option maxHeartbeats 8000000
theorem rule_c (h : SpOk w B S km A Mo σ) (r : RuleV) (ok : RuleOk r) (hl : σ.N.length + 6760 ≤ 2147483647) :
    Calls Tryz.prog 41 #[.pointer (some ⟨S, 0, none⟩), .agg #[.bool r.permit, .int .i64 r.proto, .int .u32 r.sa, .int .i64 r.sn, .int .u32 r.da, .int .i64 r.dn, .int .u32 r.sl, .int .u32 r.sh, .int .u32 r.dl, .int .u32 r.dh]] w
      (SpRes w B S km A Mo σ (ruleF r) (6760) (6760)) := by
  obtain ⟨i0, hif, hz0, hz1, hz2⟩ := info_parts Tryz.infoFn0
  have hW : (w.alloc (.cells #[.pointer (some ⟨S, 0, none⟩)] 76)).alloc (.cells #[.bool r.permit, .int .i64 r.proto, .int .u32 r.sa, .int .i64 r.sn, .int .u32 r.da, .int .i64 r.dn, .int .u32 r.sl, .int .u32 r.sh, .int .u32 r.dl, .int .u32 r.dh] 71) = (w.alloc (.cells #[.pointer (some ⟨S, 0, none⟩)] 76)).alloc (.cells #[.bool r.permit, .int .i64 r.proto, .int .u32 r.sa, .int .i64 r.sn, .int .u32 r.da, .int .i64 r.dn, .int .u32 r.sl, .int .u32 r.sh, .int .u32 r.dl, .int .u32 r.dh] 71) := rfl
  have hbw := below2 w (.cells #[.pointer (some ⟨S, 0, none⟩)] 76) (.cells #[.bool r.permit, .int .i64 r.proto, .int .u32 r.sa, .int .i64 r.sn, .int .u32 r.da, .int .i64 r.dn, .int .u32 r.sl, .int .u32 r.sh, .int .u32 r.dl, .int .u32 r.dh] 71)
  have hs1 : (w.alloc (.cells #[.pointer (some ⟨S, 0, none⟩)] 76)).heap.size = w.heap.size + 1 := by simp
  have hks := blk_below (below1 (w.alloc (.cells #[.pointer (some ⟨S, 0, none⟩)] 76)) (.cells #[.bool r.permit, .int .i64 r.proto, .int .u32 r.sa, .int .i64 r.sn, .int .u32 r.da, .int .i64 r.dn, .int .u32 r.sl, .int .u32 r.sh, .int .u32 r.dl, .int .u32 r.dh] 71)) (blk1 w (.cells #[.pointer (some ⟨S, 0, none⟩)] 76))
  have hkr := blk1 (w.alloc (.cells #[.pointer (some ⟨S, 0, none⟩)] 76)) (.cells #[.bool r.permit, .int .i64 r.proto, .int .u32 r.sa, .int .i64 r.sn, .int .u32 r.da, .int .i64 r.dn, .int .u32 r.sl, .int .u32 r.sh, .int .u32 r.dl, .int .u32 r.dh] 71)
  rw [hs1] at hkr
  have HSZ : Hid (((w.alloc (.cells #[.pointer (some ⟨S, 0, none⟩)] 76)).alloc (.cells #[.bool r.permit, .int .i64 r.proto, .int .u32 r.sa, .int .i64 r.sn, .int .u32 r.da, .int .i64 r.dn, .int .u32 r.sl, .int .u32 r.sh, .int .u32 r.dl, .int .u32 r.dh] 71)).heap.size = w.heap.size + 1 + 1) := Lib.hid (by simp)
  have HAB := Lib.hid (show AskBox _ S w.heap.size (w.heap.size + 1) r from ⟨hks, hkr⟩)
  have HF1 := Lib.hid (h.sp.ar.foreign_new hbw (Nat.le_refl _) (lt_of_block hks))
  have HF2 := Lib.hid (h.sp.ar.foreign_new hbw (show w.heap.size ≤ w.heap.size + 1 by omega) (lt_of_block hkr))
  have HNE : Hid (w.heap.size ≠ km ∧ w.heap.size + 1 ≠ km) := Lib.hid (by have := h.sp.fk.1; omega)
  have HS := Lib.hid (h.below hbw)
  have HK := Lib.hid (h.kept hbw)
  have HOK := Lib.hid ok
  have c1 : ((w.alloc (.cells #[.pointer (some ⟨S, 0, none⟩)] 76)).alloc (.cells #[.bool r.permit, .int .i64 r.proto, .int .u32 r.sa, .int .i64 r.sn, .int .u32 r.da, .int .i64 r.dn, .int .u32 r.sl, .int .u32 r.sh, .int .u32 r.dl, .int .u32 r.dh] 71)).cell? ⟨w.heap.size + 1, 1, none⟩ = some (.int .i64 r.proto) := cell_of_row _ _ 1 _ _ (0, 0) hkr
  clear h hbw hks hkr hs1 ok hW
  go_enter Tryz.func41, Tryz.ntmps41
  go_upto_region 1 with fail
  generalize (w.alloc (.cells #[.pointer (some ⟨S, 0, none⟩)] 76)).alloc (.cells #[.bool r.permit, .int .i64 r.proto, .int .u32 r.sa, .int .i64 r.sn, .int .u32 r.da, .int .i64 r.dn, .int .u32 r.sl, .int .u32 r.sh, .int .u32 r.dl, .int .u32 r.dh] 71) = w0 at *
  have HROW := Lib.hid (show (w0.alloc (.cells #[askV w.heap.size (w.heap.size + 1) 0, askV w.heap.size (w.heap.size + 1) 1, askV w.heap.size (w.heap.size + 1) 2, askV w.heap.size (w.heap.size + 1) 3] 131)).ownsRow w0.heap.size 131 1 (.slice (some ⟨w0.heap.size, 0, none⟩) 4 4) 4 [askV w.heap.size (w.heap.size + 1) 0, askV w.heap.size (w.heap.size + 1) 1, askV w.heap.size (w.heap.size + 1) 2, askV w.heap.size (w.heap.size + 1) 3] from
    World.ownsRow_lit w0 #[askV w.heap.size (w.heap.size + 1) 0, askV w.heap.size (w.heap.size + 1) 1, askV w.heap.size (w.heap.size + 1) 2, askV w.heap.size (w.heap.size + 1) 3] 4 (Nat.le_refl _) (by unfold maxLen; omega) rfl)
  have HB1 := Lib.hid (below1 w0 (.cells #[askV w.heap.size (w.heap.size + 1) 0, askV w.heap.size (w.heap.size + 1) 1, askV w.heap.size (w.heap.size + 1) 2, askV w.heap.size (w.heap.size + 1) 3] 131))
  have hWV : w0.alloc (.cells #[.func (.func 55) #[] #[.pointer (some ⟨w.heap.size, 0, none⟩), .pointer (some ⟨w.heap.size + 1, 0, none⟩)], .func (.func 57) #[] #[.pointer (some ⟨w.heap.size, 0, none⟩), .pointer (some ⟨w.heap.size + 1, 0, none⟩)], .func (.func 58) #[] #[.pointer (some ⟨w.heap.size, 0, none⟩), .pointer (some ⟨w.heap.size + 1, 0, none⟩)], .func (.func 60) #[] #[.pointer (some ⟨w.heap.size, 0, none⟩), .pointer (some ⟨w.heap.size + 1, 0, none⟩)]] 131) = w0.alloc (.cells #[askV w.heap.size (w.heap.size + 1) 0, askV w.heap.size (w.heap.size + 1) 1, askV w.heap.size (w.heap.size + 1) 2, askV w.heap.size (w.heap.size + 1) 3] 131) := rfl
  go_upto_region 2 with fail
  clear hWV
  generalize w0.alloc (.cells #[askV w.heap.size (w.heap.size + 1) 0, askV w.heap.size (w.heap.size + 1) 1, askV w.heap.size (w.heap.size + 1) 2, askV w.heap.size (w.heap.size + 1) 3] 131) = w1 at *
  have d1 : w1.cell? ⟨w.heap.size + 1, 1, none⟩ = some (.int .i64 r.proto) := cell_of_row _ _ 1 _ _ (0, 0) (blk_below HB1.out HAB.out.r)
  clear c1
  by_cases hp : 0 ≤ r.proto
  · have hpi : r.proto ≥ 0 := hp
    have hne : asksN r = 5 := if_pos hp
    have HN := Lib.hid hne
    have hbs := HB1.out.size
    clear hp hne
    go_upto_region 4 with (at_builtin; refine wpList_push2 (v := .slice (some ⟨w0.heap.size, 0, none⟩) 4 4) rfl _ _ 134 rfl 131 i0 _ 1 8 Tryz.underlying134 hif hz0 hz1 hz2 rfl (by decide) (by decide) [askV w.heap.size (w.heap.size + 1) 4] rfl rfl rfl HROW.out rfl (by intro u hu; simp at hu; subst hu; rfl) (by omega) hbs ?_; intro v2 w2 hown2 hg2 hmv2; obtain ⟨A2, c2, hv2, hA2⟩ := owns_form hown2; subst hv2; have HO2 := Lib.hid hown2; have HA2 := Lib.hid hA2; have HB2 := Lib.hid (below_grown HB1.out hbs hg2 (fun g hg => by have : some w0.heap.size = some g := hg; injection this; omega)); clear hown2 hg2 hmv2 hA2)
    clear HROW hbs
    have HS2 := Lib.hid (HS.out.below HB2.out)
    have HK2 := Lib.hid (HK.out.trans (HS.out.kept HB2.out))
    have HAB2 := Lib.hid (show AskBox w2 S w.heap.size (w.heap.size + 1) r from ⟨blk_below HB2.out HAB.out.s, blk_below HB2.out HAB.out.r⟩)
    have HG2 := Lib.hid (And.intro (((HS.out.kept HB2.out).same _ HF1.out HNE.out.1).2) (((HS.out.kept HB2.out).same _ HF2.out HNE.out.2).2))
    have HBOX : Hid (∀ W, KeptS A km w2 W → AskBox W S w.heap.size (w.heap.size + 1) r) := Lib.hid fun W hW => ⟨(hW.same _ HG2.out.1 HNE.out.1).1.trans HAB2.out.s, (hW.same _ HG2.out.2 HNE.out.2).1.trans HAB2.out.r⟩
    have HCELL : Hid (∀ k, k < 5 → ∃ g, A2 = some ⟨g, 0, none⟩ ∧ ∀ W, KeptS A km w2 W → W.cell? ⟨g, k, none⟩ = some (askV w.heap.size (w.heap.size + 1) k)) := Lib.hid fun k hk => by
      obtain ⟨g, hg⟩ := HA2.out (by omega)
      have hlg := HO2.out.lt g (by rw [hg]; rfl)
      have hgf := HS.out.sp.ar.foreign_new HB2.out hlg.1 hlg.2
      have hgk : g ≠ km := by have := HS.out.sp.fk.1; omega
      refine ⟨g, hg, fun W hW => (World.cell?_of_block (hW.same _ hgf hgk).1).trans ?_⟩
      have ho := HO2.out
      rw [hg] at ho
      refine (ho.cellAt k (by omega)).trans ?_
      obtain rfl | rfl | rfl | rfl | rfl : k = 0 ∨ k = 1 ∨ k = 2 ∨ k = 3 ∨ k = 4 := by omega
      all_goals rfl
    clear HO2 HB2 HA2 HAB HF1 HF2 HSZ HAB2 HG2 HNE HS HK
    go_wp2
    go_loopw [7, 26] (fun f i wr => ∃ k : Nat, i = .int .i64 k ∧ k ≤ 5 ∧ ∃ (q : Nat) (τ : Sg), f = .int .i64 q ∧ Hid (SpOk wr B S km A Mo τ) ∧ Hid (To (k * 1352) (k * 1352) σ τ) ∧ Hid (Den τ q (ruleK r k)) ∧ Hid (KeptS A km w2 wr)) (fun _ i _ => 5 - (intOf i).toNat)
    case atStart => exact ⟨0, rfl, by omega, 1, σ, rfl, HS2, Lib.hid (by rw [Nat.zero_mul]; exact To.refl σ), Lib.hid (Den.one HS2.out.ok), Lib.hid (KeptS.refl _ _ _)⟩
    case round =>
      obtain ⟨k, rfl, hk, q, τ, rfl, HSR, HTR, HDR, HKR⟩ := hrel
      by_cases hlt : k < 5
      · have hI : (k : Int) < 5 := by omega
        obtain ⟨g, hge, hcell⟩ := HCELL.out k hlt
        have hcl := hcell wr HKR.out
        obtain ⟨fid, hfv, hen, hcall⟩ := ask_yes (B := B) (S := S) (km := km) (A := A) (Mo := Mo) r HOK.out w.heap.size (w.heap.size + 1) k (by rw [HN.out]; exact hlt)
        rw [hfv] at hcl
        have hm1 : (k + 1) * 1352 ≤ 6760 := (by omega)
        have hm2 : (k + 1) * 1352 = k * 1352 + 1352 := by rw [Nat.add_mul, Nat.one_mul]
        have hnl := HTR.out.nl
        have HCL := Lib.hid (hcall wr τ HSR.out (HBOX.out wr HKR.out) (by omega))
        have HM := Lib.hid (And.intro hm1 hm2)
        clear hcell hfv hcall hm1 hm2 hnl
        subst hge
        go_upto_region 9 with ((with_reducible refine HCL.out.mono ?_); rintro e w5 hr5; obtain ⟨q5, c5, he5⟩ := hr5.form; have HR5 := Lib.hid hr5; subst he5; clear hr5)
        rcases HR5.out.two with ⟨rfl, rfl, hlt5, τ5, hs5, ht5⟩ | ⟨r5, τ5, rfl, rfl, hs5, ht5, hd5⟩
        · have HFIN := Lib.hid (SpRes.full (F := ruleF r) (HK2.out.trans (HKR.out.trans HR5.out.1)) rfl (by have := HTR.out.hl; have := HM.out; omega) hs5 ((HTR.out.trans ht5).mono (show k * 1352 + 1216 ≤ 6760 by have := HM.out; omega) (show k * 1352 + 1216 ≤ 6760 by have := HM.out; omega)))
          clear hlt5 hs5 ht5
          go_wp2
          go_ret2
          exact HFIN.out
        · have HS5 := Lib.hid hs5
          have HT5 := Lib.hid (HTR.out.trans ht5)
          have HK5 := Lib.hid (HKR.out.trans HR5.out.1)
          have hnl := HT5.out.nl
          have hm := HM.out
          have hw := ruleK_widB HOK.out (j := k + 1) (by rw [HN.out]; omega)
          have HAN := Lib.hid (show Calls Tryz.prog 42 #[.pointer (some ⟨S, 0, none⟩), .int .i64 q, .int .i64 r5] w5 (SpRes w5 B S km A Mo τ5 (ruleK r (k + 1)) 136 136) from relAnd_yes hs5 (HDR.out.to ht5 HSR.out.ok hs5.ok) hd5 (ruleK_set r k) (askF_set r k) (a := 136) (b := 136) (Grow.widB hs5.ok.wf.two hw) (by omega))
          have s0 := cell0 (HBOX.out w5 HK5.out).s
          clear hs5 ht5 hd5 HR5 HCL hnl hm hw hcl hen
          go_upto_region 12 with ((with_reducible refine HAN.out.mono ?_); rintro e w7 hr7; obtain ⟨q7, c7, he7⟩ := hr7.form; have HR7 := Lib.hid hr7; subst he7; clear hr7)
          rcases HR7.out.two with ⟨rfl, rfl, hlt7, τ7, hs7, ht7⟩ | ⟨r7, τ7, rfl, rfl, hs7, ht7, hd7⟩
          · have HFIN := Lib.hid (SpRes.full (F := ruleF r) (HK2.out.trans (HK5.out.trans HR7.out.1)) rfl (by have := HT5.out.hl; have := HM.out; omega) hs7 ((HT5.out.trans ht7).mono (show k * 1352 + 1216 + 136 ≤ 6760 by have := HM.out; omega) (show k * 1352 + 1216 + 136 ≤ 6760 by have := HM.out; omega)))
            clear hlt7 hs7 ht7
            go_wp2
            go_ret2
            exact HFIN.out
          · have HS7 := Lib.hid hs7
            have HT7 := Lib.hid ((HT5.out.trans ht7).mono (show k * 1352 + 1216 + 136 ≤ (k + 1) * 1352 by have := HM.out; omega) (show k * 1352 + 1216 + 136 ≤ (k + 1) * 1352 by have := HM.out; omega))
            have HD7 := Lib.hid hd7
            have HK7 := Lib.hid (HK5.out.trans HR7.out.1)
            clear hs7 ht7 hd7 HR7 HAN
            go_wp2
            exact ⟨⟨k + 1, by go_num, by omega, r7, τ7, rfl, HS7, HT7, HD7, HK7⟩, by simp only [intOf]; omega⟩
      · obtain rfl : k = 5 := by omega
        have hI : ¬ ((5 : Nat) : Int) < 5 := by omega
        have hfd := HDR.out
        have hrf : ruleF r = ruleK r 5 := by unfold ruleF; rw [HN.out]
        rw [← hrf] at hfd
        have HFIN : Hid (SpRes w B S km A Mo σ (ruleF r) (6760) (6760) (.returned (.tuple #[.int .i64 q, .int .i64 0])) wr) := Lib.hid ⟨HK2.out.trans HKR.out, .inr ⟨q, τ, rfl, HSR.out, HTR.out.mono ((by omega)) ((by omega)), hfd⟩⟩
        clear hfd hrf
        go_wp2
        go_ret2
        exact HFIN.out
  · have hpi : ¬ r.proto ≥ 0 := hp
    have hne : asksN r = 4 := if_neg hp
    have HN := Lib.hid hne
    clear hp hne
    go_upto_region 4 with fail
    obtain ⟨A2, hA2e⟩ : ∃ A2 : Option Addr, A2 = some ⟨w0.heap.size, 0, none⟩ := ⟨_, rfl⟩
    obtain ⟨c2, hc2e⟩ : ∃ c2 : Nat, c2 = 4 := ⟨_, rfl⟩
    have HO2 := HROW
    have HA2 : Hid (0 < 4 → ∃ g, some (⟨w0.heap.size, 0, none⟩ : Addr) = some ⟨g, 0, none⟩) := Lib.hid fun _ => ⟨_, rfl⟩
    have HB2 := HB1
    clear HROW HB1 d1 hA2e hc2e
    clear A2 c2
    rename World => w2
    have HS2 := Lib.hid (HS.out.below HB2.out)
    have HK2 := Lib.hid (HK.out.trans (HS.out.kept HB2.out))
    have HAB2 := Lib.hid (show AskBox w2 S w.heap.size (w.heap.size + 1) r from ⟨blk_below HB2.out HAB.out.s, blk_below HB2.out HAB.out.r⟩)
    have HG2 := Lib.hid (And.intro (((HS.out.kept HB2.out).same _ HF1.out HNE.out.1).2) (((HS.out.kept HB2.out).same _ HF2.out HNE.out.2).2))
    have HBOX : Hid (∀ W, KeptS A km w2 W → AskBox W S w.heap.size (w.heap.size + 1) r) := Lib.hid fun W hW => ⟨(hW.same _ HG2.out.1 HNE.out.1).1.trans HAB2.out.s, (hW.same _ HG2.out.2 HNE.out.2).1.trans HAB2.out.r⟩
    have HCELL : Hid (∀ k, k < 4 → ∃ g, (some (⟨w0.heap.size, 0, none⟩ : Addr)) = some ⟨g, 0, none⟩ ∧ ∀ W, KeptS A km w2 W → W.cell? ⟨g, k, none⟩ = some (askV w.heap.size (w.heap.size + 1) k)) := Lib.hid fun k hk => by
      obtain ⟨g, hg⟩ := HA2.out (by omega)
      have hlg := HO2.out.lt g (by rw [hg]; rfl)
      have hgf := HS.out.sp.ar.foreign_new HB2.out hlg.1 hlg.2
      have hgk : g ≠ km := by have := HS.out.sp.fk.1; omega
      refine ⟨g, hg, fun W hW => (World.cell?_of_block (hW.same _ hgf hgk).1).trans ?_⟩
      have ho := HO2.out
      rw [hg] at ho
      refine (ho.cellAt k (by omega)).trans ?_
      obtain rfl | rfl | rfl | rfl : k = 0 ∨ k = 1 ∨ k = 2 ∨ k = 3 := by omega
      all_goals rfl
    clear HO2 HB2 HA2 HAB HF1 HF2 HSZ HAB2 HG2 HNE HS HK
    go_wp2
    go_loopw [7, 26] (fun f i wr => ∃ k : Nat, i = .int .i64 k ∧ k ≤ 4 ∧ ∃ (q : Nat) (τ : Sg), f = .int .i64 q ∧ Hid (SpOk wr B S km A Mo τ) ∧ Hid (To (k * 1352) (k * 1352) σ τ) ∧ Hid (Den τ q (ruleK r k)) ∧ Hid (KeptS A km w2 wr)) (fun _ i _ => 4 - (intOf i).toNat)
    case atStart => exact ⟨0, rfl, by omega, 1, σ, rfl, HS2, Lib.hid (by rw [Nat.zero_mul]; exact To.refl σ), Lib.hid (Den.one HS2.out.ok), Lib.hid (KeptS.refl _ _ _)⟩
    case round =>
      obtain ⟨k, rfl, hk, q, τ, rfl, HSR, HTR, HDR, HKR⟩ := hrel
      by_cases hlt : k < 4
      · have hI : (k : Int) < 4 := by omega
        obtain ⟨g, hge, hcell⟩ := HCELL.out k hlt
        have hcl := hcell wr HKR.out
        obtain ⟨fid, hfv, hen, hcall⟩ := ask_yes (B := B) (S := S) (km := km) (A := A) (Mo := Mo) r HOK.out w.heap.size (w.heap.size + 1) k (by rw [HN.out]; exact hlt)
        rw [hfv] at hcl
        have hm1 : (k + 1) * 1352 ≤ 6760 := (by omega)
        have hm2 : (k + 1) * 1352 = k * 1352 + 1352 := by rw [Nat.add_mul, Nat.one_mul]
        have hnl := HTR.out.nl
        have HCL := Lib.hid (hcall wr τ HSR.out (HBOX.out wr HKR.out) (by omega))
        have HM := Lib.hid (And.intro hm1 hm2)
        clear hcell hfv hcall hm1 hm2 hnl
        obtain rfl : g = w0.heap.size := by injection hge with hge; injection hge with h1; exact h1.symm
        go_upto_region 9 with ((with_reducible refine HCL.out.mono ?_); rintro e w5 hr5; obtain ⟨q5, c5, he5⟩ := hr5.form; have HR5 := Lib.hid hr5; subst he5; clear hr5)
        rcases HR5.out.two with ⟨rfl, rfl, hlt5, τ5, hs5, ht5⟩ | ⟨r5, τ5, rfl, rfl, hs5, ht5, hd5⟩
        · have HFIN := Lib.hid (SpRes.full (F := ruleF r) (HK2.out.trans (HKR.out.trans HR5.out.1)) rfl (by have := HTR.out.hl; have := HM.out; omega) hs5 ((HTR.out.trans ht5).mono (show k * 1352 + 1216 ≤ 6760 by have := HM.out; omega) (show k * 1352 + 1216 ≤ 6760 by have := HM.out; omega)))
          clear hlt5 hs5 ht5
          go_wp2
          go_ret2
          exact HFIN.out
        · have HS5 := Lib.hid hs5
          have HT5 := Lib.hid (HTR.out.trans ht5)
          have HK5 := Lib.hid (HKR.out.trans HR5.out.1)
          have hnl := HT5.out.nl
          have hm := HM.out
          have hw := ruleK_widB HOK.out (j := k + 1) (by rw [HN.out]; omega)
          have HAN := Lib.hid (show Calls Tryz.prog 42 #[.pointer (some ⟨S, 0, none⟩), .int .i64 q, .int .i64 r5] w5 (SpRes w5 B S km A Mo τ5 (ruleK r (k + 1)) 136 136) from relAnd_yes hs5 (HDR.out.to ht5 HSR.out.ok hs5.ok) hd5 (ruleK_set r k) (askF_set r k) (a := 136) (b := 136) (Grow.widB hs5.ok.wf.two hw) (by omega))
          have s0 := cell0 (HBOX.out w5 HK5.out).s
          clear hs5 ht5 hd5 HR5 HCL hnl hm hw hcl hen
          go_upto_region 12 with ((with_reducible refine HAN.out.mono ?_); rintro e w7 hr7; obtain ⟨q7, c7, he7⟩ := hr7.form; have HR7 := Lib.hid hr7; subst he7; clear hr7)
          rcases HR7.out.two with ⟨rfl, rfl, hlt7, τ7, hs7, ht7⟩ | ⟨r7, τ7, rfl, rfl, hs7, ht7, hd7⟩
          · have HFIN := Lib.hid (SpRes.full (F := ruleF r) (HK2.out.trans (HK5.out.trans HR7.out.1)) rfl (by have := HT5.out.hl; have := HM.out; omega) hs7 ((HT5.out.trans ht7).mono (show k * 1352 + 1216 + 136 ≤ 6760 by have := HM.out; omega) (show k * 1352 + 1216 + 136 ≤ 6760 by have := HM.out; omega)))
            clear hlt7 hs7 ht7
            go_wp2
            go_ret2
            exact HFIN.out
          · have HS7 := Lib.hid hs7
            have HT7 := Lib.hid ((HT5.out.trans ht7).mono (show k * 1352 + 1216 + 136 ≤ (k + 1) * 1352 by have := HM.out; omega) (show k * 1352 + 1216 + 136 ≤ (k + 1) * 1352 by have := HM.out; omega))
            have HD7 := Lib.hid hd7
            have HK7 := Lib.hid (HK5.out.trans HR7.out.1)
            clear hs7 ht7 hd7 HR7 HAN
            go_wp2
            exact ⟨⟨k + 1, by go_num, by omega, r7, τ7, rfl, HS7, HT7, HD7, HK7⟩, by simp only [intOf]; omega⟩
      · obtain rfl : k = 4 := by omega
        have hI : ¬ ((4 : Nat) : Int) < 4 := by omega
        have hfd := HDR.out
        have hrf : ruleF r = ruleK r 4 := by unfold ruleF; rw [HN.out]
        rw [← hrf] at hfd
        have HFIN : Hid (SpRes w B S km A Mo σ (ruleF r) (6760) (6760) (.returned (.tuple #[.int .i64 q, .int .i64 0])) wr) := Lib.hid ⟨HK2.out.trans HKR.out, .inr ⟨q, τ, rfl, HSR.out, HTR.out.mono ((by omega)) ((by omega)), hfd⟩⟩
        clear hfd hrf
        go_wp2
        go_ret2
        exact HFIN.out
end
end Go.Proofs.YthhcaoljejifeaaGreat

/-
  A space that holds nearly all of its nodes: an operation that goes well adds to the held whatever it adds to the nodes; no program.
-/
namespace Go.Proofs.YthhcaoljejifeaaGreat
open Go Go.RowKit Go.ChangeMaps Go.MapKept Go.Maps Go.Lib Go.Sort

/-- Two nodes of one function are of one variable. -/
theorem same_level {N M : List Nd} (wN : WF N) (wM : WF M) {i i' : Nat} (h2 : 2 ≤ i) (hi : i < N.length) (hi' : i' < M.length) (he : ∀ s, ev M s i' = ev N s i) : (nd M i').v = (nd N i).v ∧ 2 ≤ i' := by
  have a := wM.level hi' (m := (nd N i).v) (wN.v256 i) (fun s t h => by rw [he, he]; exact ev_agree wN i s t hi h)
  have b := wN.level hi (m := (nd M i').v) (wM.v256 i') (fun s t h => by rw [← he, ← he]; exact ev_agree wM i' s t hi' h)
  have c := wN.v_lt h2 hi
  refine ⟨Nat.le_antisymm b a, ?_⟩
  rcases Nat.lt_or_ge i' 2 with h | h
  · have := wM.ends i' h
    rw [this] at b
    dsimp only at b
    omega
  · exact h
/-- What is reached from the one is reached from the other. -/
theorem rch_same {N M : List Nd} (wN : WF N) (wM : WF M) {i j : Nat} (h : Rch N i j) : ∀ i', i < N.length → i' < M.length → (∀ s, ev M s i' = ev N s i) → ∃ j', Rch M i' j' ∧ j' < M.length ∧ ∀ s, ev M s j' = ev N s j := by
  induction h with
  | refl i => intro i' _ h2 h3; exact ⟨i', .refl _, h2, h3⟩
  | @lo i j h2 hi hr ih =>
    intro i' hi0 hi' he
    obtain ⟨hv, h2'⟩ := same_level wN wM h2 hi hi' he
    obtain ⟨j', a, b, c⟩ := ih (nd M i').lo (Nat.lt_trans (wN.lo i h2 hi) hi) (Nat.lt_trans (wM.lo i' h2' hi') hi') (fun s => by rw [← ev_lo wM h2' hi' s, ← ev_lo wN h2 hi s, hv]; exact he _)
    exact ⟨j', .lo h2' hi' a, b, c⟩
  | @hi i j h2 hi hr ih =>
    intro i' hi0 hi' he
    obtain ⟨hv, h2'⟩ := same_level wN wM h2 hi hi' he
    obtain ⟨j', a, b, c⟩ := ih (nd M i').hi (Nat.lt_trans (wN.hi i h2 hi) hi) (Nat.lt_trans (wM.hi i' h2' hi') hi') (fun s => by rw [← ev_hi wM h2' hi' s, ← ev_hi wN h2 hi s, hv]; exact he _)
    exact ⟨j', .hi h2' hi' a, b, c⟩
theorem rch_cl {M : List Nd} {H : List Nat} (hcl : Cl M H) {i j : Nat} (h : Rch M i j) : (i < 2 ∨ i ∈ H) → j < 2 ∨ j ∈ H := by
  induction h with
  | refl i => exact id
  | lo h2 _ _ ih => exact fun hi => ih (hi.elim (fun h => by omega) fun h => (hcl _ h).1)
  | hi h2 _ _ ih => exact fun hi => ih (hi.elim (fun h => by omega) fun h => (hcl _ h).2)
theorem choose_list {Q : Nat → Nat → Prop} : ∀ (n : Nat), (∀ t, t < n → ∃ j, Q t j) → ∃ f : Nat → Nat, ∀ t, t < n → Q t (f t)
  | 0, _ => ⟨fun _ => 0, fun t h => by omega⟩
  | n + 1, h => by
    obtain ⟨f, hf⟩ := choose_list n (fun t ht => h t (by omega))
    obtain ⟨j, hj⟩ := h n (by omega)
    refine ⟨fun t => if t = n then j else f t, fun t ht => ?_⟩
    by_cases e : t = n
    · simp only [if_pos e]; rw [e]; exact hj
    · simp only [if_neg e]; exact hf t (by omega)
/-- The nodes that an answer needs are among the held behind it. -/
theorem new_ge {N N1 M : List Nd} {F : Fun} {r1 r : Nat} (w : WF N) (a : Ans N F r1 N1) (eM : Ext N M) (wM : WF M) (hr : r < M.length) (he : ∀ s, ev M s r = F s) {H H' : List Nat} (hcl : Cl M H') (hrH : r < 2 ∨ r ∈ H') (hsub : ∀ x ∈ H, x ∈ H') (hH : FOk N H) :
    H.length + (N1.length - N.length) ≤ H'.length := by
  have hq : ∀ t, t < N1.length - N.length → ∃ j, N.length ≤ j ∧ j ∈ H' ∧ ∀ s, ev M s j = ev N1 s (N.length + t) := fun t ht => by
    obtain ⟨j, h1, h2, h3⟩ := rch_same a.wf wM (a.new (N.length + t) (by omega) (by omega)) r a.lt hr (fun s => (he s).trans (a.sem s).symm)
    have hge : N.length ≤ j := by
      rcases Nat.lt_or_ge j N.length with h | h
      · exfalso
        have := a.wf.canon (N.length + t) j (N.length + t) (by omega) (Nat.le_refl _) (Nat.lt_of_lt_of_le h a.ext.len) (by omega) (fun s => by rw [a.ext.ev w a.wf s h, ← eM.ev w wM s h]; exact h3 s)
        omega
      · exact h
    refine ⟨j, hge, ?_, h3⟩
    rcases rch_cl hcl h1 hrH with h | h
    · have := w.two; omega
    · exact h
  obtain ⟨f, hf⟩ := choose_list _ hq
  have hnd : (H ++ (List.range (N1.length - N.length)).map f).Nodup := by
    refine List.nodup_append.2 ⟨hH.1, ?_, fun x hx y hy e => ?_⟩
    · refine (List.pairwise_map).2 (List.Pairwise.imp_of_mem (fun {x y} hx hy hne e => ?_) List.nodup_range)
      have h1 := hf x (List.mem_range.1 hx)
      have h2 := hf y (List.mem_range.1 hy)
      have := a.wf.canon (N.length + x + (N.length + y)) (N.length + x) (N.length + y) (by omega) (by omega) (by have := List.mem_range.1 hx; omega) (by have := List.mem_range.1 hy; omega) (fun s => by rw [← h1.2.2 s, ← h2.2.2 s, e])
      omega
    · obtain ⟨t, ht, rfl⟩ := List.mem_map.1 hy
      have h1 := hf t (List.mem_range.1 ht)
      have := (hH.2 x hx).2
      omega
  have := nodup_lenN hnd (B := H') (fun x hx => by
    rcases List.mem_append.1 hx with hx | hx
    · exact hsub x hx
    · obtain ⟨t, ht, rfl⟩ := List.mem_map.1 hx
      exact (hf t (List.mem_range.1 ht)).2.1)
  simpa using this
/-- There is a least number of new nodes; it is needed. -/
theorem grow_least {N : List Nd} {H : List Nat} {F : Fun} {m : Nat} : ∀ c, Grow N H F c m → ∃ k, k ≤ c ∧ Grow N H F k m ∧ (k = 0 ∨ ∃ r1 N1, Ans N F r1 N1 ∧ N1.length = N.length + k)
  | 0, h => ⟨0, Nat.le_refl _, h, .inl rfl⟩
  | c + 1, h => by
    by_cases hc : Grow N H F c m
    · obtain ⟨k, h1, h2⟩ := grow_least c hc
      exact ⟨k, by omega, h2⟩
    · refine ⟨c + 1, Nat.le_refl _, h, .inr ?_⟩
      unfold Grow at hc
      simp only [Classical.not_forall] at hc
      obtain ⟨r, N', he, hw, hr, hs, hn, hx⟩ := hc
      have := h r N' he hw hr hs hn
      exact ⟨r, N', ⟨he, hw, hr, hs, hn⟩, by omega⟩
/-- s nodes more than before are not held. -/
def Sl (s : Nat) (σ τ : Sg) : Prop := τ.N.length + σ.H.length ≤ σ.N.length + τ.H.length + s
theorem Sl.refl (σ : Sg) : Sl 0 σ σ := by unfold Sl; omega
theorem Sl.trans {s t : Nat} {a b c : Sg} (h : Sl s a b) (g : Sl t b c) : Sl (s + t) a c := by unfold Sl at *; omega
theorem Sl.mono {s t : Nat} {a b : Sg} (h : Sl s a b) (g : s ≤ t) : Sl t a b := by unfold Sl at *; omega
theorem held_le {σ τ : Sg} {k m Mo Mo' : Nat} (t : To k m σ τ) (o : SgOk Mo σ) (_ : SgOk Mo' τ) : σ.H.length ≤ τ.H.length := nodup_lenN o.hok.1 t.h
theorem To.sl {σ τ : Sg} {k m Mo Mo' : Nat} (t : To k m σ τ) (o : SgOk Mo σ) (p : SgOk Mo' τ) : Sl k σ τ := by
  have h1 := held_le t o p
  have h2 := t.nl
  unfold Sl
  omega
/-- What a call on a space comes to, with little that is not held. -/
def SpResT (w : World) (B S km : Nat) (A : Blks) (Mo : Nat) (σ : Sg) (F : Fun) (k m : Nat) (e : Ending) (w' : World) : Prop :=
  KeptS A km w w' ∧ ((e = .returned (.tuple #[.int .i64 0, .int .i64 3]) ∧ Mo < σ.H.length + m ∧ ∃ τ, SpOk w' B S km A Mo τ ∧ To k m σ τ) ∨
    ∃ (r : Nat) (τ : Sg), e = .returned (.tuple #[.int .i64 r, .int .i64 0]) ∧ SpOk w' B S km A Mo τ ∧ To k m σ τ ∧ Den τ r F ∧ Sl 0 σ τ)
theorem SpResT.form {w w' : World} {B S km : Nat} {A : Blks} {Mo : Nat} {σ : Sg} {F : Fun} {k m : Nat} {e : Ending} (h : SpResT w B S km A Mo σ F k m e w') : ∃ q c : Int, e = .returned (.tuple #[.int .i64 q, .int .i64 c]) := by
  rcases h.2 with ⟨rfl, _⟩ | ⟨_, _, rfl, _⟩
  · exact ⟨_, _, rfl⟩
  · exact ⟨_, _, rfl⟩
theorem SpResT.two {w w' : World} {B S km : Nat} {A : Blks} {Mo : Nat} {σ : Sg} {F : Fun} {k m : Nat} {q c : Int} (h : SpResT w B S km A Mo σ F k m (.returned (.tuple #[.int .i64 q, .int .i64 c])) w') :
    (q = 0 ∧ c = 3 ∧ Mo < σ.H.length + m ∧ ∃ τ, SpOk w' B S km A Mo τ ∧ To k m σ τ) ∨ ∃ (r : Nat) (τ : Sg), q = r ∧ c = 0 ∧ SpOk w' B S km A Mo τ ∧ To k m σ τ ∧ Den τ r F ∧ Sl 0 σ τ := by
  rcases h.2 with ⟨h1, h2⟩ | ⟨r, τ, h1, h2⟩
  · injection h1 with h1
    injection h1 with h1
    simp at h1
    exact .inl ⟨h1.1, h1.2, h2⟩
  · injection h1 with h1
    injection h1 with h1
    simp at h1
    exact .inr ⟨r, τ, h1.1, h1.2, h2⟩
theorem slim_call {P : Program} {f : FuncId} {args : Array Value} {w : World} {B S km : Nat} {A : Blks} {Mo : Nat} {σ : Sg} {F : Fun} {c m : Nat} (o : SpOk w B S km A Mo σ) (hg : Grow σ.N σ.H F c m)
    (h : ∀ k, k ≤ c → Grow σ.N σ.H F k m → Calls P f args w (SpRes w B S km A Mo σ F k m)) : Calls P f args w (SpResT w B S km A Mo σ F c m) := by
  obtain ⟨k, hk, hgk, hw⟩ := grow_least c hg
  refine (h k hk hgk).mono ?_
  rintro e w' ⟨h1, h2⟩
  refine ⟨h1, ?_⟩
  rcases h2 with ⟨h2, h3, τ, h4, h5⟩ | ⟨r, τ, h2, h3, h4, h5⟩
  · exact .inl ⟨h2, h3, τ, h4, h5.mono hk (Nat.le_refl _)⟩
  · refine .inr ⟨r, τ, h2, h3, h4.mono hk (Nat.le_refl _), h5, ?_⟩
    have hl := held_le h4 o.ok h3.ok
    rcases hw with rfl | ⟨r1, N1, ha, hn⟩
    · have := h4.nl
      unfold Sl
      omega
    · have hb := h4.nl
      have := new_ge o.ok.wf ha h4.ext h3.ok.wf (h3.ok.g r h5.1).1 h5.2 h3.ok.cl (h3.ok.g r h5.1).2.1 h4.h o.ok.hok
      unfold Sl
      omega
/-- How many nodes there may be. -/
theorem Sl.room {s Mo : Nat} {σ τ : Sg} (h : Sl s σ τ) {t : Nat} (h0 : σ.N.length ≤ σ.H.length + t) (p : SgOk Mo τ) : τ.N.length ≤ Mo + t + s := by
  have := p.mo
  unfold Sl at h
  omega
end Go.Proofs.YthhcaoljejifeaaGreat
