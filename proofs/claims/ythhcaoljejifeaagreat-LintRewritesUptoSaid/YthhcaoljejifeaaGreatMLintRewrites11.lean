/-
  Joined texts: Tg2, Tg3, Fc5, Fc6, FoM, Filt6, Filt7, Filt8.
-/
import Derived.Test.YthhcaoljejifeaaGreatMLintRewrites10
import Derived.Deep.DeepCutAuto
import Derived.Test.YthhcaoljejifeaaGreatMLintRewrites9
import Derived.Laws.StructEq
/-
  The sets for which each rule of a filter decides, at a space that holds nearly all of its nodes (written by wip/gen/gentg.py).
-/
namespace Go.Proofs.YthhcaoljejifeaaGreat
open Go Go.RowKit Go.ChangeMaps Go.MapKept Go.Maps Go.Lib Go.Sort

/-- What Rules comes to: a node for each rule, and for what each leaves, or no room. -/
def RulesT (w : World) (B S km : Nat) (A : Blks) (Mo : Nat) (σ : Sg) (L : List RuleV) (k : Nat) (e : Ending) (w' : World) : Prop :=
  KeptS A km w w' ∧ ((e = .returned (.tuple #[.slice none 0 0, .int .i64 3]) ∧ Mo < σ.H.length + k ∧ ∃ τ, SpOk w' B S km A Mo τ ∧ To k k σ τ) ∨
    ∃ (v : Value) (ns : List Nat) (τ : Sg), e = .returned (.tuple #[v, .int .i64 0]) ∧ SpOk w' B S km A Mo τ ∧ To k k σ τ ∧ ns.length = L.length ∧ (∀ i n, ns[i]? = some n → Den τ n (decF L i)) ∧ (∀ i, i ≤ L.length → ∃ g, Den τ g (leftF L i)) ∧ w'.ownsRow w.heap.size 3 1 v ns.length (ncl ns) ∧ OwnF A km S w' v ∧ Sl (6760 * L.length) σ τ)
theorem RulesT.full {w w' : World} {B S km : Nat} {A : Blks} {Mo : Nat} {σ τ : Sg} {L : List RuleV} {k : Nat} {e : Ending} (hk : KeptS A km w w') (h1 : e = .returned (.tuple #[.slice none 0 0, .int .i64 3])) (h2 : Mo < σ.H.length + k) (h3 : SpOk w' B S km A Mo τ) (h4 : To k k σ τ) : RulesT w B S km A Mo σ L k e w' := ⟨hk, .inl ⟨h1, h2, τ, h3, h4⟩⟩
section
variable {w : World} {B S km : Nat} {A : Blks} {Mo : Nat} {σ : Sg}
set_option maxRecDepth 100000
set_option maxHeartbeats 8000000
theorem rules_t (h : SpOk w B S km A Mo σ) (nm : ByteArray) (L : List RuleV) (vL : Value) (hL : RdF A km w 10 vL L.length (rcells L)) (he : filtE L = 0) (cd cl : Nat → Nat) (hK : ∀ (k : Nat) (r : RuleV), L[k]? = some r → Fits σ (decF L k) (cd k) ∧ Fits σ (leftF L (k + 1)) (cl k)) (cm t : Nat) (hT : σ.N.length ≤ σ.H.length + t) (hC : ∀ k, k < L.length → cd k ≤ cm ∧ cl k ≤ cm) (hl : Mo + t + 6760 * L.length + (6760 + cm) ≤ 2147483647) :
    Calls Tryz.prog 21 #[.pointer (some ⟨S, 0, none⟩), .agg #[.string nm, vL]] w (RulesT w B S km A Mo σ L (sumTo (rcst cd cl) L.length)) := by
  obtain ⟨hlen, hmay⟩ := rule_may he
  obtain ⟨i0, hif, hz0, hz1, hz2⟩ := info_parts Tryz.infoInt
  obtain ⟨j0, jif, jz0, jz1, jz2⟩ := info_parts Tryz.infoRuleF
  obtain ⟨PL, cL, rfl, _⟩ := hL.rd.form
  have hbw := below1 w (.cells #[.string nm, .slice PL L.length cL] 54)
  have hbk := blk1 w (.cells #[.string nm, .slice PL L.length cL] 54)
  have HL := Lib.hid (hL.kept (h.kept hbw))
  have HS := Lib.hid (h.below hbw)
  have HK0 := Lib.hid (h.kept hbw)
  have HB0 := Lib.hid hbw
  have HBK := Lib.hid hbk
  have HWK := Lib.hid hK
  have HMAY := Lib.hid hmay
  have HTN := Lib.hid hT
  have HCC := Lib.hid hC
  have b0 : (w.alloc (.cells #[.string nm, .slice PL L.length cL] 54)).cell? ⟨w.heap.size, 0, none⟩ = some (.string nm) := cell_of_row _ _ 0 _ _ (0, 0) hbk
  have b1 : (w.alloc (.cells #[.string nm, .slice PL L.length cL] 54)).cell? ⟨w.heap.size, 1, none⟩ = some (.slice PL L.length cL) := cell_of_row _ _ 1 _ _ (0, 0) hbk
  have hck := filtCheck_any nm L _ _ HL.out.rd
  rw [he] at hck
  have HCK := Lib.hid hck
  clear h hL he hbw hbk hK hmay hck hT hC
  go_enter Tryz.func21, Tryz.ntmps21
  go_upto_region 1 with fail
  generalize w.alloc (.cells #[.string nm, .slice PL L.length cL] 54) = w0 at *
  go_upto_region 6 with ((with_reducible refine HCK.out.mono ?_); rintro e w2 ⟨rfl, hb2⟩; have HB2 := Lib.hid hb2; clear hb2)
  have HS2 := Lib.hid (HS.out.below HB2.out)
  have HK2 := Lib.hid (HK0.out.trans (HS.out.kept HB2.out))
  have HL2 := Lib.hid (HL.out.kept (HS.out.kept HB2.out))
  have HSZ : Hid (w.heap.size ≤ w2.heap.size) := Lib.hid (Nat.le_trans HB0.out.size HB2.out.size)
  have d1 : w2.cell? ⟨w.heap.size, 1, none⟩ = some (.slice PL L.length cL) := cell_of_row _ _ 1 _ _ (0, 0) (blk_below HB2.out HBK.out)
  clear b0 b1 HCK HB2 HS HL HK0 HBK HB0
  go_wp2
  go_loopw [7, 8, 9, 26] (fun q ov sv i wr => ∃ k : Nat, i = .int .i64 k ∧ k ≤ L.length ∧ ∃ (n : Nat) (τ : Sg) (ns : List Nat) (D : List RuleV), q = .int .i64 n ∧ Hid (RuSt w2 wr B S km A Mo τ ov ns sv D) ∧ Hid (ns.length = k) ∧ Hid (To (sumTo (rcst cd cl) k) (sumTo (rcst cd cl) k) σ τ) ∧ Hid (Sl (6760 * k) σ τ) ∧ Hid (Den τ n (leftF L k)) ∧ Hid (∀ i m, ns[i]? = some m → Den τ m (decF L i)) ∧ Hid (D.length ≤ k ∧ ∀ d ∈ D, ∃ j x, j < k ∧ L[j]? = some x ∧ ruleF d = ruleF x) ∧ Hid (∀ i, i ≤ k → ∃ g, Den τ g (leftF L i))) (fun _ _ _ i _ => L.length - (intOf i).toNat)
  case atStart => exact ⟨0, rfl, by omega, 1, σ, [], [], rfl, Lib.hid (RuSt.start HS2.out), Lib.hid rfl, Lib.hid (To.refl σ), Lib.hid (Sl.refl σ), Lib.hid (Den.one HS2.out.ok), Lib.hid (by simp), Lib.hid ⟨by simp, by simp⟩, Lib.hid fun i hi => ⟨1, by obtain rfl : i = 0 := Nat.le_zero.1 hi; exact Den.one HS2.out.ok⟩⟩
  case round =>
    obtain ⟨k, rfl, hk, n, τ, ns, D, rfl, HR, HNS, HT, HSL, HD, HDS, HDD, HLK⟩ := hrel
    obtain ⟨Ao, co, hove, _⟩ := owns_form HR.out.out
    obtain ⟨As, cs, hsve, _⟩ := owns_form HR.out.seen
    subst hove hsve
    by_cases hlt : k < L.length
    · have hI : (k : Int) < (L.length : Int) := by omega
      obtain ⟨r, hr⟩ : ∃ r, L[k]? = some r := ⟨_, List.getElem?_eq_getElem hlt⟩
      obtain ⟨P', c', hv', _, _, hcell⟩ := HL2.out.kept HR.out.kept
      injection hv' with hP hlq hcq
      subst hP hcq
      clear hlq
      obtain ⟨bL, off, rfl, _, _, hcell⟩ := hcell (by omega)
      have r0 : wr.cell? ⟨bL, off + k * 10, none⟩ = some (.bool r.permit) := hcell (k * 10) _ (rcell (i := 0) hr rfl)
      have r1 : wr.cell? ⟨bL, off + k * 10 + 1, none⟩ = some (.int .i64 r.proto) := by have := hcell (k * 10 + 1) _ (rcell (i := 1) hr rfl); rwa [← Nat.add_assoc] at this
      have r2 : wr.cell? ⟨bL, off + k * 10 + 2, none⟩ = some (.int .u32 r.sa) := by have := hcell (k * 10 + 2) _ (rcell (i := 2) hr rfl); rwa [← Nat.add_assoc] at this
      have r3 : wr.cell? ⟨bL, off + k * 10 + 3, none⟩ = some (.int .i64 r.sn) := by have := hcell (k * 10 + 3) _ (rcell (i := 3) hr rfl); rwa [← Nat.add_assoc] at this
      have r4 : wr.cell? ⟨bL, off + k * 10 + 4, none⟩ = some (.int .u32 r.da) := by have := hcell (k * 10 + 4) _ (rcell (i := 4) hr rfl); rwa [← Nat.add_assoc] at this
      have r5 : wr.cell? ⟨bL, off + k * 10 + 5, none⟩ = some (.int .i64 r.dn) := by have := hcell (k * 10 + 5) _ (rcell (i := 5) hr rfl); rwa [← Nat.add_assoc] at this
      have r6 : wr.cell? ⟨bL, off + k * 10 + 6, none⟩ = some (.int .u32 r.sl) := by have := hcell (k * 10 + 6) _ (rcell (i := 6) hr rfl); rwa [← Nat.add_assoc] at this
      have r7 : wr.cell? ⟨bL, off + k * 10 + 7, none⟩ = some (.int .u32 r.sh) := by have := hcell (k * 10 + 7) _ (rcell (i := 7) hr rfl); rwa [← Nat.add_assoc] at this
      have r8 : wr.cell? ⟨bL, off + k * 10 + 8, none⟩ = some (.int .u32 r.dl) := by have := hcell (k * 10 + 8) _ (rcell (i := 8) hr rfl); rwa [← Nat.add_assoc] at this
      have r9 : wr.cell? ⟨bL, off + k * 10 + 9, none⟩ = some (.int .u32 r.dh) := by have := hcell (k * 10 + 9) _ (rcell (i := 9) hr rfl); rwa [← Nat.add_assoc] at this
      have HRR := Lib.hid hr
      have hok := HMAY.out k r hr
      have hwk := HWK.out k r hr
      have HOK := Lib.hid (And.intro hok hwk)
      have hm1 : sumTo (rcst cd cl) (k + 1) ≤ sumTo (rcst cd cl) L.length := sumTo_up _ hlt
      have hm2 : sumTo (rcst cd cl) (k + 1) = sumTo (rcst cd cl) k + (6760 + cd k + cl k) := rfl
      have HM := Lib.hid (And.intro hm1 hm2)
      have HCM := Lib.hid (HCC.out k hlt)
      clear hcell hr hok hwk hm1 hm2
      go_upto_region 13 with fail
      have hb3 := below2 wr (.cells #[.bool r.permit, .int .i64 r.proto, .int .u32 r.sa, .int .i64 r.sn, .int .u32 r.da, .int .i64 r.dn, .int .u32 r.sl, .int .u32 r.sh, .int .u32 r.dl, .int .u32 r.dh] 71) (.cells #[.bool r.permit, .int .i64 r.proto, .int .u32 r.sa, .int .i64 r.sn, .int .u32 r.da, .int .i64 r.dn, .int .u32 r.sl, .int .u32 r.sh, .int .u32 r.dl, .int .u32 r.dh] 71)
      have hs3 : (wr.alloc (.cells #[.bool r.permit, .int .i64 r.proto, .int .u32 r.sa, .int .i64 r.sn, .int .u32 r.da, .int .i64 r.dn, .int .u32 r.sl, .int .u32 r.sh, .int .u32 r.dl, .int .u32 r.dh] 71)).heap.size = wr.heap.size + 1 := by simp
      have ka := blk_below (below1 (wr.alloc (.cells #[.bool r.permit, .int .i64 r.proto, .int .u32 r.sa, .int .i64 r.sn, .int .u32 r.da, .int .i64 r.dn, .int .u32 r.sl, .int .u32 r.sh, .int .u32 r.dl, .int .u32 r.dh] 71)) (.cells #[.bool r.permit, .int .i64 r.proto, .int .u32 r.sa, .int .i64 r.sn, .int .u32 r.da, .int .i64 r.dn, .int .u32 r.sl, .int .u32 r.sh, .int .u32 r.dl, .int .u32 r.dh] 71)) (blk1 wr (.cells #[.bool r.permit, .int .i64 r.proto, .int .u32 r.sa, .int .i64 r.sn, .int .u32 r.da, .int .i64 r.dn, .int .u32 r.sl, .int .u32 r.sh, .int .u32 r.dl, .int .u32 r.dh] 71))
      have kb := blk1 (wr.alloc (.cells #[.bool r.permit, .int .i64 r.proto, .int .u32 r.sa, .int .i64 r.sn, .int .u32 r.da, .int .i64 r.dn, .int .u32 r.sl, .int .u32 r.sh, .int .u32 r.dl, .int .u32 r.dh] 71)) (.cells #[.bool r.permit, .int .i64 r.proto, .int .u32 r.sa, .int .i64 r.sn, .int .u32 r.da, .int .i64 r.dn, .int .u32 r.sl, .int .u32 r.sh, .int .u32 r.dl, .int .u32 r.dh] 71)
      rw [hs3] at kb
      have HR3 := Lib.hid (HR.out.below hb3)
      have HB3 := Lib.hid hb3
      have HA3 := Lib.hid ka
      clear hs3 hb3 r0 r1 r2 r3 r4 r5 r6 r7 r8 r9
      generalize (wr.alloc (.cells #[.bool r.permit, .int .i64 r.proto, .int .u32 r.sa, .int .i64 r.sn, .int .u32 r.da, .int .i64 r.dn, .int .u32 r.sl, .int .u32 r.sh, .int .u32 r.dl, .int .u32 r.dh] 71)).alloc (.cells #[.bool r.permit, .int .i64 r.proto, .int .u32 r.sa, .int .i64 r.sn, .int .u32 r.da, .int .i64 r.dn, .int .u32 r.sl, .int .u32 r.sh, .int .u32 r.dl, .int .u32 r.dh] 71) = w3 at *
      have fz := frozen_of_row w3 _ 0 _ _ kb
      have cz : w3.cell? ⟨wr.heap.size + 1, 0, none⟩ = some (.bool r.permit) := cell_of_row _ _ 0 _ _ (0, 0) kb
      have st : ∀ k, k ≠ wr.heap.size + 1 → (w3.setCell ⟨wr.heap.size + 1, 0, none⟩ (.bool false)).heap[k]? = w3.heap[k]? := fun k hk => Below.heap_setCell w3 ⟨wr.heap.size + 1, 0, none⟩ _ k hk
      have hsz : (w3.setCell ⟨wr.heap.size + 1, 0, none⟩ (.bool false)).heap.size = w3.heap.size := by simp [World.setCell]
      have hb4 : Below wr.heap.size wr (w3.setCell ⟨wr.heap.size + 1, 0, none⟩ (.bool false)) := ⟨HB3.out.os, HB3.out.tape, HB3.out.output, by have := HB3.out.size; omega, fun k hk => (st k (by omega)).trans (HB3.out.block k hk)⟩
      have kb4 : (w3.setCell ⟨wr.heap.size + 1, 0, none⟩ (.bool false)).heap[wr.heap.size + 1]? = some (.cells #[.bool (anyR r).permit, .int .i64 (anyR r).proto, .int .u32 (anyR r).sa, .int .i64 (anyR r).sn, .int .u32 (anyR r).da, .int .i64 (anyR r).dn, .int .u32 (anyR r).sl, .int .u32 (anyR r).sh, .int .u32 (anyR r).dl, .int .u32 (anyR r).dh] 71 (0, 0)) := heap_setCell_same _ _ _ _ _ _ kb
      have ka4 := (st wr.heap.size (by omega)).trans ka
      have HR4 := Lib.hid (HR.out.below hb4)
      have HKA := Lib.hid ka4
      have HKB := Lib.hid kb4
      have HB4 := Lib.hid hb4
      clear st hsz hb4 kb4 ka4 ka kb HR3 HB3 HA3
      go_upto_region 14 with fail
      clear fz cz
      generalize w3.setCell ⟨wr.heap.size + 1, 0, none⟩ (.bool false) = w4 at *
      have HCON := Lib.hid (containsRule_any D _ (fun x => sameR x (anyR r)) 40 #[.pointer (some ⟨wr.heap.size + 1, 0, none⟩)] w4 (enters_of Tryz.func40 (by kernel_rfl) rfl) (rulesEq_pred (anyR r) _ w4 HKB.out) (Rd.of_own HR4.out.seen) (by have := HDD.out.1; omega))
      have HANY := Lib.hid (show D.any (fun x => sameR x (anyR r)) = true → leftF L (k + 1) = leftF L k ∧ decF L k = fun _ => false from fun ha => by
        obtain ⟨d, hd, hs⟩ := List.any_eq_true.1 ha
        obtain ⟨j, x, hj, hx, hdx⟩ := HDD.out.2 d hd
        have he := sameR_eq hs
        subst he
        rw [ruleF_any] at hdx
        have hsub : ∀ s, ruleF r s = true → leftF L k s = false := fun s hs => by
          unfold leftF
          rw [Bool.not_eq_false', List.any_eq_true]
          refine ⟨x, List.mem_of_getElem? (i := j) (by rw [List.getElem?_take_of_lt hj]; exact hx), ?_⟩
          rw [← hdx]; exact hs
        refine ⟨?_, ?_⟩
        · rw [leftF_succ HRR.out]
          funext s
          cases h : ruleF r s
          · simp
          · rw [hsub s h]; rfl
        · rw [decF_eq HRR.out]
          funext s
          cases h : ruleF r s
          · simp
          · rw [hsub s h]; rfl)
      generalize hB : D.any (fun x => sameR x (anyR r)) = Bv at *
      clear hB
      go_wp2_with fail
      refine HCON.out.mono ?_
      rintro e w5 ⟨rfl, hb5⟩
      have HR5 := Lib.hid (HR4.out.below hb5)
      have HKA5 := Lib.hid (blk_below hb5 HKA.out)
      have HKB5 := Lib.hid (blk_below hb5 HKB.out)
      have HB5 := Lib.hid (HB4.out.trans (hb5.mono HB4.out.size))
      have hbs := HR5.out.kept.size
      have hnl := HNS.out
      have hml : ns.length ≤ 1099511627776 := by omega
      clear hb5 HR4 HKA HKB HB4 HCON hnl
      cases Bv with
      | true =>
        obtain ⟨hlf, hdf⟩ := HANY.out rfl
        have HLF := Lib.hid hlf
        have HDF := Lib.hid hdf
        clear hlf hdf HANY
        go_wp2_with (at_builtin; refine wpList_push2 (v := .slice Ao ns.length co) rfl _ _ 37 rfl 3 i0 _ 1 8 Tryz.underlying37 hif hz0 hz1 hz2 rfl (by decide) (by decide) [.int .i64 0] rfl rfl rfl HR5.out.out rfl (one_i64 _) hml hbs ?_; intro v6 w6 ho6 hg6 hm6; have HR6 := Lib.hid (HR5.out.pushOut (n := 0) ho6 hg6 hm6); obtain ⟨A6, c6, hv6, _⟩ := owns_form ho6; subst hv6; clear ho6 hg6 hm6)
        exact ⟨⟨k + 1, by go_num, by omega, n, τ, ns ++ [0], D, rfl, HR6, Lib.hid (by simp [HNS.out]), Lib.hid (HT.out.mono (by have := HM.out; omega) (by have := HM.out; omega)), Lib.hid (HSL.out.mono (by omega)), Lib.hid (by rw [HLF.out]; exact HD.out), Lib.hid (den_snoc HDS.out HNS.out (by rw [HDF.out]; exact Den.zero HR6.out.sp.ok)), Lib.hid ⟨by have := HDD.out.1; omega, fun d hd => by obtain ⟨j, x, h1, h2, h3⟩ := HDD.out.2 d hd; exact ⟨j, x, by omega, h2, h3⟩⟩, Lib.hid fun i hi => by
          rcases Nat.lt_or_ge k i with h1 | h1
          · obtain rfl : i = k + 1 := by omega
            exact ⟨n, by rw [HLF.out]; exact HD.out⟩
          · exact HLK.out i h1⟩, by simp only [intOf]; omega⟩
      | false =>
        clear HANY
        have a0 : w5.cell? ⟨wr.heap.size + 1, 0, none⟩ = some (.bool (anyR r).permit) := cell_of_row _ _ 0 _ _ (0, 0) HKB5.out
        have a1 : w5.cell? ⟨wr.heap.size + 1, 1, none⟩ = some (.int .i64 (anyR r).proto) := cell_of_row _ _ 1 _ _ (0, 0) HKB5.out
        have a2 : w5.cell? ⟨wr.heap.size + 1, 2, none⟩ = some (.int .u32 (anyR r).sa) := cell_of_row _ _ 2 _ _ (0, 0) HKB5.out
        have a3 : w5.cell? ⟨wr.heap.size + 1, 3, none⟩ = some (.int .i64 (anyR r).sn) := cell_of_row _ _ 3 _ _ (0, 0) HKB5.out
        have a4 : w5.cell? ⟨wr.heap.size + 1, 4, none⟩ = some (.int .u32 (anyR r).da) := cell_of_row _ _ 4 _ _ (0, 0) HKB5.out
        have a5 : w5.cell? ⟨wr.heap.size + 1, 5, none⟩ = some (.int .i64 (anyR r).dn) := cell_of_row _ _ 5 _ _ (0, 0) HKB5.out
        have a6 : w5.cell? ⟨wr.heap.size + 1, 6, none⟩ = some (.int .u32 (anyR r).sl) := cell_of_row _ _ 6 _ _ (0, 0) HKB5.out
        have a7 : w5.cell? ⟨wr.heap.size + 1, 7, none⟩ = some (.int .u32 (anyR r).sh) := cell_of_row _ _ 7 _ _ (0, 0) HKB5.out
        have a8 : w5.cell? ⟨wr.heap.size + 1, 8, none⟩ = some (.int .u32 (anyR r).dl) := cell_of_row _ _ 8 _ _ (0, 0) HKB5.out
        have a9 : w5.cell? ⟨wr.heap.size + 1, 9, none⟩ = some (.int .u32 (anyR r).dh) := cell_of_row _ _ 9 _ _ (0, 0) HKB5.out
        have hdl : D.length ≤ 1099511627776 := by have := HDD.out.1; omega
        have HLTS := Lib.hid (fun g hg => (HR.out.seen.lt g hg).2)
        go_upto_region 17 with (at_builtin; refine wpList_push2 (v := .slice As D.length cs) rfl _ _ 52 rfl 71 j0 _ 10 64 Tryz.underlying52 jif jz0 jz1 jz2 rfl (by decide) (by decide) (anyR r).enc rfl rfl rfl HR5.out.seen rfl (by intro u hu; simp only [RuleV.enc, List.mem_cons, List.not_mem_nil, or_false] at hu; rcases hu with rfl | rfl | rfl | rfl | rfl | rfl | rfl | rfl | rfl | rfl <;> rfl) hdl hbs ?_; intro v6 w6 ho6 hg6 hm6; have HR6 := Lib.hid (HR5.out.pushSeen ho6 hg6 hm6); have HKA6 := Lib.hid ((hg6.block _ (lt_of_block HKA5.out) (fun e => by have := HLTS.out _ e.symm; omega)).trans HKA5.out); obtain ⟨A6, c6, hv6, _⟩ := owns_form ho6; subst hv6; clear ho6 hg6 hm6)
        clear a0 a1 a2 a3 a4 a5 a6 a7 a8 a9 HKA5 HKB5 HR5 HLTS hdl hbs
        have e0 : w6.cell? ⟨wr.heap.size, 0, none⟩ = some (.bool r.permit) := cell_of_row _ _ 0 _ _ (0, 0) HKA6.out
        have e1 : w6.cell? ⟨wr.heap.size, 1, none⟩ = some (.int .i64 r.proto) := cell_of_row _ _ 1 _ _ (0, 0) HKA6.out
        have e2 : w6.cell? ⟨wr.heap.size, 2, none⟩ = some (.int .u32 r.sa) := cell_of_row _ _ 2 _ _ (0, 0) HKA6.out
        have e3 : w6.cell? ⟨wr.heap.size, 3, none⟩ = some (.int .i64 r.sn) := cell_of_row _ _ 3 _ _ (0, 0) HKA6.out
        have e4 : w6.cell? ⟨wr.heap.size, 4, none⟩ = some (.int .u32 r.da) := cell_of_row _ _ 4 _ _ (0, 0) HKA6.out
        have e5 : w6.cell? ⟨wr.heap.size, 5, none⟩ = some (.int .i64 r.dn) := cell_of_row _ _ 5 _ _ (0, 0) HKA6.out
        have e6 : w6.cell? ⟨wr.heap.size, 6, none⟩ = some (.int .u32 r.sl) := cell_of_row _ _ 6 _ _ (0, 0) HKA6.out
        have e7 : w6.cell? ⟨wr.heap.size, 7, none⟩ = some (.int .u32 r.sh) := cell_of_row _ _ 7 _ _ (0, 0) HKA6.out
        have e8 : w6.cell? ⟨wr.heap.size, 8, none⟩ = some (.int .u32 r.dl) := cell_of_row _ _ 8 _ _ (0, 0) HKA6.out
        have e9 : w6.cell? ⟨wr.heap.size, 9, none⟩ = some (.int .u32 r.dh) := cell_of_row _ _ 9 _ _ (0, 0) HKA6.out
        have hnl := HSL.out.room HTN.out HR6.out.sp.ok
        have hm := HM.out
        have HRU := Lib.hid (rule_c HR6.out.sp r HOK.out.1 (by omega))
        clear hnl hm HKA6
        go_upto_region 18 with ((with_reducible refine HRU.out.mono ?_); rintro e w7 hr7; obtain ⟨q7, c7, he7⟩ := hr7.form; have HR7 := Lib.hid hr7; subst he7; clear hr7)
        clear e0 e1 e2 e3 e4 e5 e6 e7 e8 e9
        rcases HR7.out.two with ⟨rfl, rfl, hlt7, τ7, hs7, ht7⟩ | ⟨r7, τ7, rfl, rfl, hs7, ht7, hd7⟩
        · have HFIN := Lib.hid (RulesT.full (L := L) (HK2.out.trans (HR6.out.kept.trans HR7.out.1)) rfl (by have := HT.out.hl; have := HM.out; omega) hs7 ((HT.out.trans ht7).mono (show sumTo (rcst cd cl) k + 6760 ≤ sumTo (rcst cd cl) L.length by have := HM.out; omega) (show sumTo (rcst cd cl) k + 6760 ≤ sumTo (rcst cd cl) L.length by have := HM.out; omega)))
          clear hlt7 hs7 ht7
          go_wp2
          go_ret2
          exact HFIN.out
        · have HS7 := Lib.hid (HR6.out.space HR7.out.1 hs7)
          have HT7 := Lib.hid (HT.out.trans ht7)
          have HSL7 := Lib.hid (HSL.out.trans (ht7.sl HR6.out.sp.ok hs7.ok))
          have HD7 := Lib.hid hd7
          have HL7 := Lib.hid (HD.out.to ht7 HR6.out.sp.ok hs7.ok)
          have HDS7 : Hid (∀ i m, ns[i]? = some m → Den τ7 m (decF L i)) := Lib.hid fun i m hi => (HDS.out i m hi).to ht7 HR6.out.sp.ok hs7.ok
          have HLK7 : Hid (∀ i, i ≤ k → ∃ g, Den τ7 g (leftF L i)) := Lib.hid fun i hi => by obtain ⟨g, hg⟩ := HLK.out i hi; exact ⟨g, hg.to ht7 HR6.out.sp.ok hs7.ok⟩
          have hnl := HSL7.out.room HTN.out hs7.ok
          have hm := HCM.out
          have hde : decF L k = fun s => leftF L k s && ruleF r s := decF_eq HRR.out
          have hwd := HOK.out.2.1
          rw [hde] at hwd
          have HAN := Lib.hid (show Calls Tryz.prog 42 #[.pointer (some ⟨S, 0, none⟩), .int .i64 n, .int .i64 r7] w7 (SpResT w7 B S km A Mo τ7 (fun s => leftF L k s && ruleF r s) (cd k) (cd k)) from slim_call hs7 (hwd.grow HT7.out HS2.out.ok hs7.ok) fun j hj hgj => relAnd_yes hs7 HL7.out hd7 (leftF_set L k) (ruleK_set r _) (a := j) (b := cd k) hgj (by omega))
          have HDE := Lib.hid hde
          clear hs7 ht7 hd7 HR7 HRU hnl hm hde hwd
          go_upto_region 21 with ((with_reducible refine HAN.out.mono ?_); rintro e w8 hr8; obtain ⟨q8, c8, he8⟩ := hr8.form; have HR8 := Lib.hid hr8; subst he8; clear hr8)
          rcases HR8.out.two with ⟨rfl, rfl, hlt8, τ8, hs8, ht8⟩ | ⟨r8, τ8, rfl, rfl, hs8, ht8, hd8, hsl8⟩
          · have HFIN := Lib.hid (RulesT.full (L := L) (HK2.out.trans (HS7.out.kept.trans HR8.out.1)) rfl (by have := HT7.out.hl; have := HM.out; omega) hs8 ((HT7.out.trans ht8).mono (show sumTo (rcst cd cl) k + 6760 + cd k ≤ sumTo (rcst cd cl) L.length by have := HM.out; omega) (show sumTo (rcst cd cl) k + 6760 + cd k ≤ sumTo (rcst cd cl) L.length by have := HM.out; omega)))
            clear hlt8 hs8 ht8
            go_wp2
            go_ret2
            exact HFIN.out
          · have HS8 := Lib.hid (HS7.out.space HR8.out.1 hs8)
            have HT8 := Lib.hid (HT7.out.trans ht8)
            have HSL8 := Lib.hid (HSL7.out.trans hsl8)
            have HD8 : Hid (Den τ8 r8 (decF L k)) := Lib.hid (by rw [HDE.out]; exact hd8)
            have HX8 := Lib.hid (HD7.out.to ht8 HS7.out.sp.ok hs8.ok)
            have HL8 := Lib.hid (HL7.out.to ht8 HS7.out.sp.ok hs8.ok)
            have HDS8 : Hid (∀ i m, ns[i]? = some m → Den τ8 m (decF L i)) := Lib.hid fun i m hi => (HDS7.out i m hi).to ht8 HS7.out.sp.ok hs8.ok
            have HLK8 : Hid (∀ i, i ≤ k → ∃ g, Den τ8 g (leftF L i)) := Lib.hid fun i hi => by obtain ⟨g, hg⟩ := HLK7.out i hi; exact ⟨g, hg.to ht8 HS7.out.sp.ok hs8.ok⟩
            have hnl := HSL8.out.room HTN.out hs8.ok
            have hm := HCM.out
            have hde : leftF L (k + 1) = fun s => leftF L k s && !ruleF r s := leftF_succ HRR.out
            have hwd := HOK.out.2.2
            rw [hde] at hwd
            have HLE := Lib.hid (show Calls Tryz.prog 17 #[.pointer (some ⟨S, 0, none⟩), .int .i64 n, .int .i64 r7] w8 (SpResT w8 B S km A Mo τ8 (fun s => leftF L k s && !ruleF r s) (cl k) (cl k)) from slim_call hs8 (hwd.grow HT8.out HS2.out.ok hs8.ok) fun j hj hgj => relLess_yes hs8 HL8.out HX8.out (leftF_set L k) (ruleK_set r _) (a := j) (b := cl k) hgj (by omega))
            have HDE2 := Lib.hid hde
            clear hs8 ht8 hd8 hsl8 HSL7 HR8 HAN hnl hm hde hwd HDS7 HL7 HD7 HS7 HT7 HDE
            go_upto_region 24 with ((with_reducible refine HLE.out.mono ?_); rintro e w9 hr9; obtain ⟨q9, c9, he9⟩ := hr9.form; have HR9 := Lib.hid hr9; subst he9; clear hr9)
            rcases HR9.out.two with ⟨rfl, rfl, hlt9, τ9, hs9, ht9⟩ | ⟨r9, τ9, rfl, rfl, hs9, ht9, hd9, hsl9⟩
            · have HFIN := Lib.hid (RulesT.full (L := L) (HK2.out.trans (HS8.out.kept.trans HR9.out.1)) rfl (by have := HT8.out.hl; have := HM.out; omega) hs9 ((HT8.out.trans ht9).mono (show sumTo (rcst cd cl) k + 6760 + cd k + cl k ≤ sumTo (rcst cd cl) L.length by have := HM.out; omega) (show sumTo (rcst cd cl) k + 6760 + cd k + cl k ≤ sumTo (rcst cd cl) L.length by have := HM.out; omega)))
              clear hlt9 hs9 ht9
              go_wp2
              go_ret2
              exact HFIN.out
            · have HS9 := Lib.hid (HS8.out.space HR9.out.1 hs9)
              have HT9 := Lib.hid ((HT8.out.trans ht9).mono (show sumTo (rcst cd cl) k + 6760 + cd k + cl k ≤ sumTo (rcst cd cl) (k + 1) by have := HM.out; omega) (show sumTo (rcst cd cl) k + 6760 + cd k + cl k ≤ sumTo (rcst cd cl) (k + 1) by have := HM.out; omega))
              have HSL9 : Hid (Sl (6760 * (k + 1)) σ τ9) := Lib.hid ((HSL8.out.trans hsl9).mono (by omega))
              have HD9 : Hid (Den τ9 r9 (leftF L (k + 1))) := Lib.hid (by rw [HDE2.out]; exact hd9)
              have HX9 := Lib.hid (HD8.out.to ht9 HS8.out.sp.ok hs9.ok)
              have HDS9 : Hid (∀ i m, ns[i]? = some m → Den τ9 m (decF L i)) := Lib.hid fun i m hi => (HDS8.out i m hi).to ht9 HS8.out.sp.ok hs9.ok
              have HLK9 : Hid (∀ i, i ≤ k → ∃ g, Den τ9 g (leftF L i)) := Lib.hid fun i hi => by obtain ⟨g, hg⟩ := HLK8.out i hi; exact ⟨g, hg.to ht9 HS8.out.sp.ok hs9.ok⟩
              have hbs := HS9.out.kept.size
              clear hs9 ht9 hd9 hsl9 HSL8 HR9 HLE HS8 HT8 HD8 HX8 HL8 HDS8 HDE2
              go_wp2_with (at_builtin; refine wpList_push2 (v := .slice Ao ns.length co) rfl _ _ 37 rfl 3 i0 _ 1 8 Tryz.underlying37 hif hz0 hz1 hz2 rfl (by decide) (by decide) [.int .i64 r8] rfl rfl rfl HS9.out.out rfl (one_i64 _) hml hbs ?_; intro v10 w10 ho10 hg10 hm10; have HR10 := Lib.hid (HS9.out.pushOut (n := r8) ho10 hg10 hm10); obtain ⟨A10, c10, hv10, _⟩ := owns_form ho10; subst hv10; clear ho10 hg10 hm10)
              exact ⟨⟨k + 1, by go_num, by omega, r9, τ9, ns ++ [r8], D ++ [anyR r], rfl, HR10, Lib.hid (by simp [HNS.out]), HT9, HSL9, HD9, Lib.hid (den_snoc HDS9.out HNS.out HX9.out), Lib.hid ⟨by have := HDD.out.1; simp; omega, fun d hd => by
                rcases List.mem_append.1 hd with hd | hd
                · obtain ⟨j, x, h1, h2, h3⟩ := HDD.out.2 d hd
                  exact ⟨j, x, by omega, h2, h3⟩
                · obtain rfl := List.mem_singleton.1 hd
                  exact ⟨k, r, by omega, HRR.out, ruleF_any r⟩⟩, Lib.hid fun i hi => by
                rcases Nat.lt_or_ge k i with h1 | h1
                · obtain rfl : i = k + 1 := by omega
                  exact ⟨r9, HD9.out⟩
                · exact HLK9.out i h1⟩, by simp only [intOf]; omega⟩
    · obtain rfl : k = L.length := by omega
      have hI : ¬ (L.length : Int) < (L.length : Int) := by omega
      have HFIN : Hid (RulesT w B S km A Mo σ L (sumTo (rcst cd cl) L.length) (.returned (.tuple #[.slice Ao ns.length co, .int .i64 0])) wr) := Lib.hid ⟨HK2.out.trans HR.out.kept, .inr ⟨_, ns, τ, rfl, HR.out.sp, HT.out, HNS.out, HDS.out, HLK.out, owns_base HR.out.out HSZ.out, HR.out.outf, HSL.out⟩⟩
      go_wp2
      go_ret2
      exact HFIN.out
end
end Go.Proofs.YthhcaoljejifeaaGreat

/-
  What a filter permits, at a space that holds nearly all of its nodes (written by wip/gen/gentg.py).
-/
namespace Go.Proofs.YthhcaoljejifeaaGreat
open Go Go.RowKit Go.ChangeMaps Go.MapKept Go.Maps Go.Lib Go.Sort

/-- What Set comes to: the node of what is permitted, and all on the way has nodes; or no room. -/
def SetT (w : World) (B S km : Nat) (A : Blks) (Mo : Nat) (σ : Sg) (L : List RuleV) (m : Nat) (e : Ending) (w' : World) : Prop :=
  KeptS A km w w' ∧ ((e = .returned (.tuple #[.int .i64 0, .int .i64 3]) ∧ Mo < σ.H.length + m ∧ ∃ τ, SpOk w' B S km A Mo τ ∧ To m m σ τ) ∨
    ∃ (r : Nat) (τ : Sg), e = .returned (.tuple #[.int .i64 r, .int .i64 0]) ∧ SpOk w' B S km A Mo τ ∧ To m m σ τ ∧ Den τ r (setF L L.length) ∧ (∀ i, i < L.length → ∃ g, Den τ g (decF L i)) ∧ (∀ i, i ≤ L.length → ∃ g, Den τ g (leftF L i)) ∧ (∀ i, i ≤ L.length → ∃ g, Den τ g (setF L i)) ∧ Sl (6760 * L.length) σ τ)
theorem SetT.full {w w' : World} {B S km : Nat} {A : Blks} {Mo : Nat} {σ τ : Sg} {L : List RuleV} {m : Nat} {e : Ending} (hk : KeptS A km w w') (h1 : e = .returned (.tuple #[.int .i64 0, .int .i64 3])) (h2 : Mo < σ.H.length + m) (h3 : SpOk w' B S km A Mo τ) (h4 : To m m σ τ) : SetT w B S km A Mo σ L m e w' := ⟨hk, .inl ⟨h1, h2, τ, h3, h4⟩⟩
section
variable {w : World} {B S km : Nat} {A : Blks} {Mo : Nat} {σ : Sg}
set_option maxRecDepth 100000
set_option maxHeartbeats 8000000
theorem set_t (h : SpOk w B S km A Mo σ) (nm : ByteArray) (L : List RuleV) (vL : Value) (hL : RdF A km w 10 vL L.length (rcells L)) (he : filtE L = 0) (cd cl cs : Nat → Nat) (hK : ∀ (k : Nat) (r : RuleV), L[k]? = some r → Fits σ (decF L k) (cd k) ∧ Fits σ (leftF L (k + 1)) (cl k)) (hKs : ∀ k, k < L.length → Fits σ (setF L (k + 1)) (cs k)) (cm t : Nat) (hT : σ.N.length ≤ σ.H.length + t) (hC : ∀ k, k < L.length → cd k ≤ cm ∧ cl k ≤ cm ∧ cs k ≤ cm) (hl : Mo + t + 6760 * L.length + (6760 + cm) ≤ 2147483647) :
    Calls Tryz.prog 16 #[.pointer (some ⟨S, 0, none⟩), .agg #[.string nm, vL]] w (SetT w B S km A Mo σ L (sumTo (rcst cd cl) L.length + sumTo cs L.length)) := by
  obtain ⟨hlen, _⟩ := rule_may he
  obtain ⟨PL, cL, rfl, _⟩ := hL.rd.form
  have hbw := below1 w (.cells #[.string nm, .slice PL L.length cL] 54)
  have hbk := blk1 w (.cells #[.string nm, .slice PL L.length cL] 54)
  have hmul : sumTo (rcst cd cl) L.length + sumTo cs L.length = sumTo (rcst cd cl) L.length + sumTo cs L.length := rfl
  have HL := Lib.hid (hL.kept (h.kept hbw))
  have HS := Lib.hid (h.below hbw)
  have HK0 := Lib.hid (h.kept hbw)
  have HFO := Lib.hid (h.sp.ar.foreign_new hbw (Nat.le_refl _) (lt_of_block hbk))
  have HNE : Hid (w.heap.size ≠ km) := Lib.hid (by have := h.sp.fk.1; omega)
  have HBK := Lib.hid hbk
  have b0 : (w.alloc (.cells #[.string nm, .slice PL L.length cL] 54)).cell? ⟨w.heap.size, 0, none⟩ = some (.string nm) := cell_of_row _ _ 0 _ _ (0, 0) hbk
  have b1 : (w.alloc (.cells #[.string nm, .slice PL L.length cL] 54)).cell? ⟨w.heap.size, 1, none⟩ = some (.slice PL L.length cL) := cell_of_row _ _ 1 _ _ (0, 0) hbk
  have HRU := Lib.hid (rules_t HS.out nm L _ HL.out he cd cl hK cm t hT (fun k hk => ⟨(hC k hk).1, (hC k hk).2.1⟩) hl)
  have HWS := Lib.hid hKs
  have HMUL := Lib.hid (And.intro hmul hl)
  have HTN := Lib.hid hT
  have HCC := Lib.hid hC
  clear h hL he hbw hbk hK hKs hmul hl hT hC
  go_enter Tryz.func16, Tryz.ntmps16
  go_upto_region 1 with fail
  generalize w.alloc (.cells #[.string nm, .slice PL L.length cL] 54) = w0 at *
  go_wp2_with fail
  refine HRU.out.mono ?_
  rintro e w2 ⟨hk2, hres⟩
  have HK2 := Lib.hid hk2
  rcases hres with ⟨rfl, hlt2, τ2, hs2, ht2⟩ | ⟨v, ns, τ2, rfl, hs2, ht2, hns, hds, hlk, hown, hof, hsl2⟩
  · have HFIN := Lib.hid (SetT.full (L := L) (HK0.out.trans hk2) rfl (by have := HMUL.out.1; omega) hs2 (ht2.mono (show sumTo (rcst cd cl) L.length ≤ (sumTo (rcst cd cl) L.length + sumTo cs L.length) by have := HMUL.out.1; omega) (show sumTo (rcst cd cl) L.length ≤ (sumTo (rcst cd cl) L.length + sumTo cs L.length) by have := HMUL.out.1; omega)))
    clear hlt2 hs2 ht2 hk2
    go_wp2
    go_ret2
    exact HFIN.out
  · obtain ⟨Av, cv, hve, hav⟩ := owns_form hown
    subst hve
    have HS2 := Lib.hid hs2
    have HT2 := Lib.hid ht2
    have HSL2 := Lib.hid hsl2
    have HD2 := Lib.hid hds
    have HLK2 := Lib.hid hlk
    have HNS := Lib.hid hns
    have HOW := Lib.hid hown
    have HOF := Lib.hid hof
    have HAV := Lib.hid hav
    have HL2 := Lib.hid (HL.out.kept hk2)
    have HBX : Hid (∀ W, KeptS A km w2 W → W.cell? ⟨w.heap.size, 1, none⟩ = some (.slice PL L.length cL)) := Lib.hid fun W hW =>
      cell_of_row W _ 1 _ _ (0, 0) (((hk2.trans hW).same _ HFO.out HNE.out).1.trans HBK.out)
    have hnI : (ns.length : Int) = (L.length : Int) := by omega
    rw [hns]
    clear hs2 ht2 hsl2 hds hlk hown hof hav hk2 b0 b1 HRU HFO HNE HBK HL hnI
    have hns' := HNS.out
    clear hns
    go_wp2
    go_loopw [8, 22] (fun f i wr => ∃ k : Nat, i = .int .i64 k ∧ k ≤ L.length ∧ ∃ (q : Nat) (τ : Sg), f = .int .i64 q ∧ Hid (SpOk wr B S km A Mo τ) ∧ Hid (To (sumTo (rcst cd cl) L.length + sumTo cs k) (sumTo (rcst cd cl) L.length + sumTo cs k) σ τ) ∧ Hid (To (sumTo cs k) (sumTo cs k) τ2 τ) ∧ Hid (Sl (6760 * L.length) σ τ) ∧ Hid (Den τ q (setF L k)) ∧ Hid (KeptS A km w2 wr) ∧ Hid (∀ i, i ≤ k → ∃ g, Den τ g (setF L i))) (fun _ i _ => L.length - (intOf i).toNat)
    case atStart => exact ⟨0, rfl, by omega, 0, τ2, rfl, HS2, Lib.hid HT2.out, Lib.hid (To.refl τ2), HSL2, Lib.hid (Den.zero HS2.out.ok), Lib.hid (KeptS.refl _ _ _), Lib.hid fun i hi => ⟨0, by obtain rfl : i = 0 := Nat.le_zero.1 hi; exact Den.zero HS2.out.ok⟩⟩
    case round =>
      obtain ⟨k, rfl, hk, q, τ, rfl, HSR, HTR, HTT, HSL, HDR, HKR, HSK⟩ := hrel
      have b1 := HBX.out wr HKR.out
      by_cases hlt : k < L.length
      · have hI : (k : Int) < (L.length : Int) := by omega
        obtain ⟨r, hr⟩ : ∃ r, L[k]? = some r := ⟨_, List.getElem?_eq_getElem hlt⟩
        obtain ⟨P', c', hv', _, _, hcell⟩ := HL2.out.kept HKR.out
        injection hv' with hP hlq hcq
        subst hP hcq
        clear hlq
        obtain ⟨bL, off, rfl, _, _, hcell⟩ := hcell (by omega)
        have r0 : wr.cell? ⟨bL, off + k * 10, none⟩ = some (.bool r.permit) := hcell (k * 10) _ (rcell (i := 0) hr rfl)
        obtain ⟨x, hx⟩ : ∃ x, ns[k]? = some x := ⟨_, List.getElem?_eq_getElem (by have := HNS.out; omega)⟩
        obtain ⟨g, hg⟩ := HAV.out (by have := HNS.out; omega)
        subst hg
        have hfo := HOF.out g rfl
        have hxc : wr.cell? ⟨g, k, none⟩ = some (.int .i64 x) := (World.cell?_of_block (HKR.out.same g hfo.1 hfo.2.1).1).trans ((HOW.out.cellAt k (by have := HNS.out; omega)).trans (by simp [ncl, hx]))
        have HDX := Lib.hid ((HD2.out k x hx).to HTT.out HS2.out.ok HSR.out.ok)
        have hpa : permitAt L k = r.permit := by unfold permitAt; rw [hr]; rfl
        have hm1 : sumTo cs (k + 1) ≤ sumTo cs L.length := sumTo_up _ hlt
        have hm2 : sumTo cs (k + 1) = sumTo cs k + cs k := rfl
        have HM := Lib.hid (And.intro hm1 hm2)
        have hwk := HWS.out k (by omega)
        have HSF : Hid (setF L (k + 1) = if r.permit then fun s => setF L k s || decF L k s else setF L k) := Lib.hid (by rw [← hpa]; rfl)
        clear hcell hr hx hfo hm1 hm2 hpa
        cases hp : r.permit with
        | false =>
          rw [hp] at r0 HSF
          have HD8 : Hid (Den τ q (setF L (k + 1))) := Lib.hid (by rw [HSF.out]; exact HDR.out)
          have HT8 := Lib.hid (HTR.out.mono (show sumTo (rcst cd cl) L.length + sumTo cs k ≤ sumTo (rcst cd cl) L.length + sumTo cs (k + 1) by have := HM.out; omega) (show sumTo (rcst cd cl) L.length + sumTo cs k ≤ sumTo (rcst cd cl) L.length + sumTo cs (k + 1) by have := HM.out; omega))
          have HTT8 := Lib.hid (HTT.out.mono (show sumTo cs k ≤ sumTo cs (k + 1) by have := HM.out; omega) (show sumTo cs k ≤ sumTo cs (k + 1) by have := HM.out; omega))
          clear hp hwk
          go_wp2
          exact ⟨⟨k + 1, by go_num, by omega, q, τ, rfl, HSR, HT8, HTT8, HSL, HD8, HKR, Lib.hid fun i hi => by
            rcases Nat.lt_or_ge k i with h1 | h1
            · obtain rfl : i = k + 1 := by omega
              exact ⟨q, HD8.out⟩
            · exact HSK.out i h1⟩, by simp only [intOf]; omega⟩
        | true =>
          rw [hp] at r0 HSF
          have hnl := HSL.out.room HTN.out HSR.out.ok
          have hmm := HMUL.out.2
          have hm := HCC.out k hlt
          have hsf : setF L (k + 1) = fun s => setF L k s || decF L k s := by rw [HSF.out]; rfl
          rw [hsf] at hwk
          have HOR := Lib.hid (show Calls Tryz.prog 18 #[.pointer (some ⟨S, 0, none⟩), .int .i64 q, .int .i64 x] wr (SpResT wr B S km A Mo τ (fun s => setF L k s || decF L k s) (cs k) (cs k)) from slim_call HSR.out (hwk.grow HTR.out HS.out.ok HSR.out.ok) fun j hj hgj => relOr_yes HSR.out HDR.out HDX.out (setF_set L k) (decF_set' L k) (a := j) (b := cs k) hgj (by omega))
          have HSF2 := Lib.hid hsf
          clear hnl hmm hm hwk hsf hp
          go_upto_region 10 with ((with_reducible refine HOR.out.mono ?_); rintro e w8 hr8; obtain ⟨q8, c8, he8⟩ := hr8.form; have HR8 := Lib.hid hr8; subst he8; clear hr8)
          rcases HR8.out.two with ⟨rfl, rfl, hlt8, τ8, hs8, ht8⟩ | ⟨r8, τ8, rfl, rfl, hs8, ht8, hd8, hsl8⟩
          · have HFIN := Lib.hid (SetT.full (L := L) (HK0.out.trans (HK2.out.trans (HKR.out.trans HR8.out.1))) rfl (by have := HTR.out.hl; have := HM.out; have := HMUL.out.1; omega) hs8 ((HTR.out.trans ht8).mono (show sumTo (rcst cd cl) L.length + sumTo cs k + cs k ≤ (sumTo (rcst cd cl) L.length + sumTo cs L.length) by have := HM.out; have := HMUL.out.1; omega) (show sumTo (rcst cd cl) L.length + sumTo cs k + cs k ≤ (sumTo (rcst cd cl) L.length + sumTo cs L.length) by have := HM.out; have := HMUL.out.1; omega)))
            clear hlt8 hs8 ht8
            go_wp2
            go_ret2
            exact HFIN.out
          · have HS8 := Lib.hid hs8
            have HSL8 := Lib.hid (HSL.out.trans hsl8)
            have HT8 := Lib.hid ((HTR.out.trans ht8).mono (show sumTo (rcst cd cl) L.length + sumTo cs k + cs k ≤ sumTo (rcst cd cl) L.length + sumTo cs (k + 1) by have := HM.out; omega) (show sumTo (rcst cd cl) L.length + sumTo cs k + cs k ≤ sumTo (rcst cd cl) L.length + sumTo cs (k + 1) by have := HM.out; omega))
            have HTT8 := Lib.hid ((HTT.out.trans ht8).mono (show sumTo cs k + cs k ≤ sumTo cs (k + 1) by have := HM.out; omega) (show sumTo cs k + cs k ≤ sumTo cs (k + 1) by have := HM.out; omega))
            have HD8 : Hid (Den τ8 r8 (setF L (k + 1))) := Lib.hid (by rw [HSF2.out]; exact hd8)
            have HK8 := Lib.hid (HKR.out.trans HR8.out.1)
            have HSK8 : Hid (∀ i, i ≤ k → ∃ g, Den τ8 g (setF L i)) := Lib.hid fun i hi => by obtain ⟨g, hg⟩ := HSK.out i hi; exact ⟨g, hg.to ht8 HSR.out.ok hs8.ok⟩
            clear hs8 ht8 hd8 hsl8 HR8 HOR
            go_wp2
            exact ⟨⟨k + 1, by go_num, by omega, r8, τ8, rfl, HS8, HT8, HTT8, HSL8, HD8, HK8, Lib.hid fun i hi => by
              rcases Nat.lt_or_ge k i with h1 | h1
              · obtain rfl : i = k + 1 := by omega
                exact ⟨r8, HD8.out⟩
              · exact HSK8.out i h1⟩, by simp only [intOf]; omega⟩
      · obtain rfl : k = L.length := by omega
        have hI : ¬ (L.length : Int) < (L.length : Int) := by omega
        have HFIN : Hid (SetT w B S km A Mo σ L (sumTo (rcst cd cl) L.length + sumTo cs L.length) (.returned (.tuple #[.int .i64 q, .int .i64 0])) wr) := Lib.hid ⟨HK0.out.trans (HK2.out.trans HKR.out), .inr ⟨q, τ, rfl, HSR.out, HTR.out, HDR.out, fun i hi => by
          obtain ⟨n, hn⟩ : ∃ n, ns[i]? = some n := ⟨_, List.getElem?_eq_getElem (by have := HNS.out; omega)⟩
          exact ⟨n, (HD2.out i n hn).to HTT.out HS2.out.ok HSR.out.ok⟩, fun i hi => by
          obtain ⟨g, hg⟩ := HLK2.out i hi
          exact ⟨g, hg.to HTT.out HS2.out.ok HSR.out.ok⟩, HSK.out, HSL.out⟩⟩
        go_wp2
        go_ret2
        exact HFIN.out
end
end Go.Proofs.YthhcaoljejifeaaGreat

/-
  The sets for which each rule of a filter decides, with costs by function (written by wip/gen/genfc.py).
-/
namespace Go.Proofs.YthhcaoljejifeaaGreat
open Go Go.RowKit Go.ChangeMaps Go.MapKept Go.Maps Go.Lib Go.Sort

/-- What Rules comes to: a node for each rule, and for what each leaves, or no room. -/
def RulesC (w : World) (B S km : Nat) (A : Blks) (Mo : Nat) (σ : Sg) (L : List RuleV) (k : Nat) (e : Ending) (w' : World) : Prop :=
  KeptS A km w w' ∧ ((e = .returned (.tuple #[.slice none 0 0, .int .i64 3]) ∧ Mo < σ.H.length + k ∧ ∃ τ, SpOk w' B S km A Mo τ ∧ To k k σ τ) ∨
    ∃ (v : Value) (ns : List Nat) (τ : Sg), e = .returned (.tuple #[v, .int .i64 0]) ∧ SpOk w' B S km A Mo τ ∧ To k k σ τ ∧ ns.length = L.length ∧ (∀ i n, ns[i]? = some n → Den τ n (decF L i)) ∧ (∀ i, i ≤ L.length → ∃ g, Den τ g (leftF L i)) ∧ w'.ownsRow w.heap.size 3 1 v ns.length (ncl ns) ∧ OwnF A km S w' v)
theorem RulesC.full {w w' : World} {B S km : Nat} {A : Blks} {Mo : Nat} {σ τ : Sg} {L : List RuleV} {k : Nat} {e : Ending} (hk : KeptS A km w w') (h1 : e = .returned (.tuple #[.slice none 0 0, .int .i64 3])) (h2 : Mo < σ.H.length + k) (h3 : SpOk w' B S km A Mo τ) (h4 : To k k σ τ) : RulesC w B S km A Mo σ L k e w' := ⟨hk, .inl ⟨h1, h2, τ, h3, h4⟩⟩
section
variable {w : World} {B S km : Nat} {A : Blks} {Mo : Nat} {σ : Sg}
set_option maxRecDepth 100000
set_option maxHeartbeats 8000000
end
end Go.Proofs.YthhcaoljejifeaaGreat

/-
  What a filter permits, with costs by function (written by wip/gen/genfc.py).
-/
namespace Go.Proofs.YthhcaoljejifeaaGreat
open Go Go.RowKit Go.ChangeMaps Go.MapKept Go.Maps Go.Lib Go.Sort

/-- What Set comes to: the node of what is permitted, and all on the way has nodes; or no room. -/
def SetC (w : World) (B S km : Nat) (A : Blks) (Mo : Nat) (σ : Sg) (L : List RuleV) (m : Nat) (e : Ending) (w' : World) : Prop :=
  KeptS A km w w' ∧ ((e = .returned (.tuple #[.int .i64 0, .int .i64 3]) ∧ Mo < σ.H.length + m ∧ ∃ τ, SpOk w' B S km A Mo τ ∧ To m m σ τ) ∨
    ∃ (r : Nat) (τ : Sg), e = .returned (.tuple #[.int .i64 r, .int .i64 0]) ∧ SpOk w' B S km A Mo τ ∧ To m m σ τ ∧ Den τ r (setF L L.length) ∧ (∀ i, i < L.length → ∃ g, Den τ g (decF L i)) ∧ (∀ i, i ≤ L.length → ∃ g, Den τ g (leftF L i)) ∧ ∀ i, i ≤ L.length → ∃ g, Den τ g (setF L i))
theorem SetC.full {w w' : World} {B S km : Nat} {A : Blks} {Mo : Nat} {σ τ : Sg} {L : List RuleV} {m : Nat} {e : Ending} (hk : KeptS A km w w') (h1 : e = .returned (.tuple #[.int .i64 0, .int .i64 3])) (h2 : Mo < σ.H.length + m) (h3 : SpOk w' B S km A Mo τ) (h4 : To m m σ τ) : SetC w B S km A Mo σ L m e w' := ⟨hk, .inl ⟨h1, h2, τ, h3, h4⟩⟩
theorem SetC.room {w w' : World} {B S km : Nat} {A : Blks} {Mo : Nat} {σ : Sg} {L : List RuleV} {m : Nat} {e : Ending} (h : SetC w B S km A Mo σ L m e w') (hm : σ.H.length + m ≤ Mo) : ∃ (r : Nat) (τ : Sg), e = .returned (.tuple #[.int .i64 r, .int .i64 0]) ∧ SpOk w' B S km A Mo τ ∧ To m m σ τ ∧ Den τ r (setF L L.length) ∧ (∀ i, i < L.length → ∃ g, Den τ g (decF L i)) ∧ (∀ i, i ≤ L.length → ∃ g, Den τ g (leftF L i)) ∧ ∀ i, i ≤ L.length → ∃ g, Den τ g (setF L i) := by
  rcases h.2 with ⟨_, h1, _⟩ | h
  · omega
  · exact h
section
variable {w : World} {B S km : Nat} {A : Blks} {Mo : Nat} {σ : Sg}
set_option maxRecDepth 100000
set_option maxHeartbeats 8000000
end
end Go.Proofs.YthhcaoljejifeaaGreat

/-
  What may be left out of a filter, turned about, denied for permitted: the functions (plain).
-/
namespace Go.Proofs.YthhcaoljejifeaaGreat
open Go Go.RowKit Go.ChangeMaps Go.MapKept Go.Maps Go.Lib Go.Sort

/-! How many nodes. -/
theorem hits_succ (L : List RuleV) (k : Nat) (s : Nat → Bool) : hits L (List.range (k + 1)) s = hits L (List.range k) s ++ if ruleAt L k s then [k] else [] := by
  unfold hits
  rw [List.range_succ, List.filter_append]
  congr 1
  cases h : ruleAt L k s <;> simp [h]
theorem left_w {L : List RuleV} (ok : ∀ (k : Nat) (r : RuleV), L[k]? = some r → RuleOk r) {k : Nat} (hk : k ≤ L.length) : WidB (leftF L k) (bW k) := by
  have h := hits_widB ok (List.range k) (fun i hi => by have := List.mem_range.1 hi; omega) fun l => l.isEmpty
  rw [List.length_range] at h
  rw [show leftF L k = fun s => (hits L (List.range k) s).isEmpty from funext fun s => hits_range L k s]
  exact h
theorem dec_w {L : List RuleV} (ok : ∀ (k : Nat) (r : RuleV), L[k]? = some r → RuleOk r) {k : Nat} (hk : k < L.length) : WidB (decF L k) (bW (k + 1)) := by
  have h := hits_widB ok (List.range (k + 1)) (fun i hi => by have := List.mem_range.1 hi; omega) fun l => l == [k]
  rw [List.length_range] at h
  rw [show decF L k = fun s => hits L (List.range (k + 1)) s == [k] from funext fun s => by
    unfold decF
    rw [hits_range, hits_succ]
    cases hh : hits L (List.range k) s with
    | nil => cases ruleAt L k s <;> simp
    | cons a r =>
      have ha : a < k := by
        have : a ∈ hits L (List.range k) s := by rw [hh]; exact List.mem_cons_self ..
        exact List.mem_range.1 (List.mem_filter.1 this).1
      have : ¬ a = k := by omega
      simp [this]]
  exact h
def headP (L : List RuleV) (l : List Nat) : Bool := match l with
  | i :: _ => permitAt L i
  | [] => false
theorem set_hits (L : List RuleV) (s : Nat → Bool) : ∀ k, setF L k s = headP L (hits L (List.range k) s)
  | 0 => rfl
  | k + 1 => by
    have ih := set_hits L s k
    rw [hits_succ]
    unfold setF
    cases hp : permitAt L k with
    | false =>
      rw [if_neg (by simp), ih]
      cases hh : hits L (List.range k) s with
      | nil => cases ruleAt L k s <;> simp [headP, hp]
      | cons a r => rfl
    | true =>
      rw [if_pos rfl]
      show (setF L k s || decF L k s) = _
      unfold decF
      rw [ih, hits_range]
      cases hh : hits L (List.range k) s with
      | nil => cases ruleAt L k s <;> simp [headP, hp]
      | cons a r => simp [headP]
theorem set_w {L : List RuleV} (ok : ∀ (k : Nat) (r : RuleV), L[k]? = some r → RuleOk r) {k : Nat} (hk : k ≤ L.length) : WidB (setF L k) (bW k) := by
  have h := hits_widB ok (List.range k) (fun i hi => by have := List.mem_range.1 hi; omega) (headP L)
  rw [List.length_range] at h
  rw [show setF L k = fun s => headP L (hits L (List.range k) s) from funext fun s => set_hits L s k]
  exact h
/-! Lists that go on. -/
/-! What decides nothing may be left out. -/
/-- The rules of those places. -/
def keepR (D : Nat → Bool) (L : List RuleV) : Nat → List RuleV
  | 0 => []
  | k + 1 => keepR D L k ++ (if D k then (L[k]?).toList else [])
/-! Denied for permitted. -/
def flipR (r : RuleV) : RuleV := ⟨!r.permit, r.proto, r.sa, r.sn, r.da, r.dn, r.sl, r.sh, r.dl, r.dh, r.hpr, r.hsa, r.hda, r.hsl, r.hsh, r.hdl, r.hdh⟩
def permR (r : RuleV) : RuleV := ⟨true, r.proto, r.sa, r.sn, r.da, r.dn, r.sl, r.sh, r.dl, r.dh, r.hpr, r.hsa, r.hda, r.hsl, r.hsh, r.hdl, r.hdh⟩
end Go.Proofs.YthhcaoljejifeaaGreat

/-
  Walks over the filter's layer: Decides; the program's and the reference's (written by wip/gen/genfilt6.py).
-/
namespace Go.Proofs.YthhcaoljejifeaaGreat
open Go Go.RowKit Go.Sort

/-- Which rule decides. -/
def decN (L : List RuleV) (h : HeaderV) : Int := idxP (fun r => fitsB r h) L
/-- .. 0 of a filter that is refused. -/
def decR (L : List RuleV) (h : HeaderV) : Int := if filtE L = 0 then decN L h else 0
set_option maxRecDepth 100000 in
set_option maxHeartbeats 1000000 in
theorem refDecides_any (nm : ByteArray) (L : List RuleV) (v : Value) (h : HeaderV) (w : World) (hr : Rd w w.heap.size 10 v L.length (rcells L)) (hlen : L.length ≤ 4294967296) :
    Calls Tryz.prog 38 #[.agg #[.string nm, v], .agg #[.int .u32 h.src, .int .u32 h.dst, .int .u8 h.proto, .int .u16 h.sp, .int .u16 h.dp]] w fun e w' => e = .returned (.int .i64 (decN L h)) ∧ Below w.heap.size w w' := by
  by_cases h0 : L.length = 0
  · obtain ⟨A, c, rfl, hc⟩ := hr.form
    have e1 : L = [] := List.eq_nil_of_length_eq_zero h0
    subst e1
    clear hr
    go_enter Tryz.func38, Tryz.ntmps38
    go_wp2
    refine wp_loop_rounds 1 ?_
    rw [rounds_succ]
    go_wp2
    go_ret
    exact ⟨rfl, below2 w _ _⟩
  · obtain ⟨b, off, c, rfl, hc, hbB, hcell⟩ := hr.posAt (by omega)
    clear hr
    have HC := Lib.hid hcell
    clear hcell
    go_enter Tryz.func38, Tryz.ntmps38
    go_wp2
    go_loopw [5] (fun i wr => ∃ k : Nat, i = .int .i64 k ∧ k ≤ L.length ∧ Hid (∀ (j : Nat) (r : RuleV), j < k → L[j]? = some r → fitsB r h = false) ∧ wr.heap[w.heap.size]? = some (.cells #[.string nm, .slice (some ⟨b, off, none⟩) L.length c] 54 (0, 0)) ∧ wr.heap[w.heap.size + 1]? = some (.cells #[.int .u32 h.src, .int .u32 h.dst, .int .u8 h.proto, .int .u16 h.sp, .int .u16 h.dp] 49 (0, 0)) ∧ Below w.heap.size w wr) (fun i _ => L.length - (intOf i).toNat)
    case atStart => exact ⟨0, rfl, by omega, fun j r hj => absurd hj (by omega), (blk2 w _ _).1, (blk2 w _ _).2, below2 w _ _⟩
    case round =>
      obtain ⟨k, rfl, hk, hno, hblk, hhd, hnx⟩ := hrel
      obtain ⟨ca, cb, _, _⟩ := two_cells hblk
      by_cases hlt : k < L.length
      · obtain ⟨r, hr⟩ : ∃ r, L[k]? = some r := ⟨_, List.getElem?_eq_getElem hlt⟩
        have hI : (k : Int) < (L.length : Int) := by omega
        have c0 : wr.cell? ⟨b, off + k * 10, none⟩ = some (.bool r.permit) := (hnx.cell hbB).trans (HC.out k 0 _ (rcell hr rfl))
        have c1 : wr.cell? ⟨b, off + k * 10 + 1, none⟩ = some (.int .i64 r.proto) := (hnx.cell hbB).trans (HC.out k 1 _ (rcell hr rfl))
        have c2 : wr.cell? ⟨b, off + k * 10 + 2, none⟩ = some (.int .u32 r.sa) := (hnx.cell hbB).trans (HC.out k 2 _ (rcell hr rfl))
        have c3 : wr.cell? ⟨b, off + k * 10 + 3, none⟩ = some (.int .i64 r.sn) := (hnx.cell hbB).trans (HC.out k 3 _ (rcell hr rfl))
        have c4 : wr.cell? ⟨b, off + k * 10 + 4, none⟩ = some (.int .u32 r.da) := (hnx.cell hbB).trans (HC.out k 4 _ (rcell hr rfl))
        have c5 : wr.cell? ⟨b, off + k * 10 + 5, none⟩ = some (.int .i64 r.dn) := (hnx.cell hbB).trans (HC.out k 5 _ (rcell hr rfl))
        have c6 : wr.cell? ⟨b, off + k * 10 + 6, none⟩ = some (.int .u32 r.sl) := (hnx.cell hbB).trans (HC.out k 6 _ (rcell hr rfl))
        have c7 : wr.cell? ⟨b, off + k * 10 + 7, none⟩ = some (.int .u32 r.sh) := (hnx.cell hbB).trans (HC.out k 7 _ (rcell hr rfl))
        have c8 : wr.cell? ⟨b, off + k * 10 + 8, none⟩ = some (.int .u32 r.dl) := (hnx.cell hbB).trans (HC.out k 8 _ (rcell hr rfl))
        have c9 : wr.cell? ⟨b, off + k * 10 + 9, none⟩ = some (.int .u32 r.dh) := (hnx.cell hbB).trans (HC.out k 9 _ (rcell hr rfl))
        have e0 : wr.cell? ⟨w.heap.size + 1, 0, none⟩ = some (.int .u32 h.src) := cell_of_row wr (w.heap.size + 1) 0 _ _ (0, 0) hhd
        have e1 : wr.cell? ⟨w.heap.size + 1, 1, none⟩ = some (.int .u32 h.dst) := cell_of_row wr (w.heap.size + 1) 1 _ _ (0, 0) hhd
        have e2 : wr.cell? ⟨w.heap.size + 1, 2, none⟩ = some (.int .u8 h.proto) := cell_of_row wr (w.heap.size + 1) 2 _ _ (0, 0) hhd
        have e3 : wr.cell? ⟨w.heap.size + 1, 3, none⟩ = some (.int .u16 h.sp) := cell_of_row wr (w.heap.size + 1) 3 _ _ (0, 0) hhd
        have e4 : wr.cell? ⟨w.heap.size + 1, 4, none⟩ = some (.int .u16 h.dp) := cell_of_row wr (w.heap.size + 1) 4 _ _ (0, 0) hhd
        have HR := Lib.hid hr
        have HB := Lib.hid hblk
        have HH := Lib.hid hhd
        clear hr hblk hhd
        have F0 := cell_regrown c0
        have F1 := cell_regrown c1
        have F2 := cell_regrown c2
        have F3 := cell_regrown c3
        have F4 := cell_regrown c4
        have F5 := cell_regrown c5
        have F6 := cell_regrown c6
        have F7 := cell_regrown c7
        have F8 := cell_regrown c8
        have F9 := cell_regrown c9
        have G0 := cell_regrown e0
        have G1 := cell_regrown e1
        have G2 := cell_regrown e2
        have G3 := cell_regrown e3
        have G4 := cell_regrown e4
        have Fa := cell_regrown ca
        have Fb := cell_regrown cb
        go_wp2
        refine wp_region_quiet_below (by kernel_rfl) (by kernel_rfl) ?_
        repeat (first | go_big_quiet_step ((go_at_call 53; exact Calls.regrown_of (refFits_any r h _))) | quiet_step ((go_at_call 53; exact Calls.regrown_of (refFits_any r h _))))
        refine wpQuiet_nil ?_
        intro _ hw'
        obtain ⟨⟨nq, osq⟩, hw''⟩ := hw'
        subst hw''
        go_wp2
        · have hm : fitsB r h = true := by assumption
          go_ret
          exact ⟨ret_int (idxP_hit _ L k r HR.out hm hno.out).symm, hnx.trans ((below_regrown wr nq osq).mono hnx.size)⟩
        · have hm : fitsB r h = false := by first | assumption | (have := ‹¬ fitsB r h = true›; simpa using this)
          refine ⟨⟨k + 1, by go_num, by omega, fun j r' hj hr' => ?_, blk_below (below_regrown wr nq osq) HB.out, blk_below (below_regrown wr nq osq) HH.out, hnx.trans ((below_regrown wr nq osq).mono hnx.size)⟩, by simp only [intOf]; omega⟩
          by_cases hjk : j = k
          · subst hjk
            have := HR.out
            rw [this] at hr'
            injection hr' with hr'
            rw [← hr']; exact hm
          · exact hno.out j r' (by omega) hr'
      · go_wp2
        go_ret
        exact ⟨ret_int (idxP_miss _ L (fun j x hx => hno.out j x (by have := (List.getElem?_eq_some_iff.1 hx).1; omega) hx)).symm, hnx⟩

end Go.Proofs.YthhcaoljejifeaaGreat

/-
  Walks over the filter's layer: Permits, the rules held against each other, the law's own probe (written by wip/gen/genfilt7.py).
-/
namespace Go.Proofs.YthhcaoljejifeaaGreat
open Go Go.RowKit Go.Sort

/-- What rule i says; false of none. -/
def permAt (L : List RuleV) (i : Int) : Bool := if 0 ≤ i then (L[i.toNat]?.map (·.permit)).getD false else false
def permN (L : List RuleV) (h : HeaderV) : Bool := permAt L (decN L h)
def permB (L : List RuleV) (h : HeaderV) : Bool := if filtE L = 0 then permN L h else false
theorem permN_miss {L : List RuleV} {h : HeaderV} (h2 : decN L h = -1) : permN L h = false := by unfold permN permAt; rw [h2, if_neg (by omega)]
theorem permN_hit {L : List RuleV} {h : HeaderV} {k : Nat} {r : RuleV} (h2 : decN L h = k) (h3 : L[k]? = some r) : permN L h = r.permit := by
  unfold permN permAt
  rw [h2, if_pos (by omega), Int.toNat_natCast, h3]; rfl

set_option maxHeartbeats 1000000 in
theorem refPermits_any (nm : ByteArray) (L : List RuleV) (v : Value) (h : HeaderV) (w : World) (hr : Rd w w.heap.size 10 v L.length (rcells L)) (hlen : L.length ≤ 4294967296) :
    Calls Tryz.prog 19 #[.agg #[.string nm, v], .agg #[.int .u32 h.src, .int .u32 h.dst, .int .u8 h.proto, .int .u16 h.sp, .int .u16 h.dp]] w fun e w' => e = .returned (.bool (permN L h)) ∧ Below w.heap.size w w' := by
  have hW : Below w.heap.size w ((w.alloc (.cells #[.string nm, v] 54)).alloc (.cells #[.int .u32 h.src, .int .u32 h.dst, .int .u8 h.proto, .int .u16 h.sp, .int .u16 h.dp] 49)) := below2 w _ _
  have h' := (hr.below hW).mono hW.size
  have hcon := refDecides_any nm L v h _ h' hlen
  rcases idxP_cases (fun r => fitsB r h) L with ⟨hD, _⟩ | ⟨k, r, hD, hk, _, _⟩
  · have hD' : decN L h = -1 := hD
    rw [hD'] at hcon
    rw [permN_miss hD']
    obtain ⟨A, c, rfl, hc⟩ := hr.form
    have hcon := Lib.hid hcon
    clear hr h' hD hD'
    go_enter Tryz.func19, Tryz.ntmps19
    go_wp2_with fail
    refine hcon.out.mono ?_
    rintro e w1 ⟨rfl, hb⟩
    have hbw := below_call hW hb
    go_wp2
    go_ret
    exact ⟨rfl, hbw⟩
  · have hD' : decN L h = k := hD
    have hlt := (List.getElem?_eq_some_iff.1 hk).1
    rw [hD'] at hcon
    rw [permN_hit hD' hk]
    obtain ⟨b, off, c, rfl, hc, hbB, hcell⟩ := hr.posAt (by omega)
    have e0 := hW.cell (p := ⟨b, off + k * 10 + 0, none⟩) hbB
    rw [hcell k 0 _ (rcell hk (v := .bool r.permit) rfl)] at e0
    have hbl : b < ((w.alloc (.cells #[.string nm, .slice (some ⟨b, off, none⟩) L.length c] 54)).alloc (.cells #[.int .u32 h.src, .int .u32 h.dst, .int .u8 h.proto, .int .u16 h.sp, .int .u16 h.dp] 49)).heap.size := by have := hW.size; omega
    have hkl : (k : Int) < (L.length : Int) := by omega
    have E0 := Lib.hid e0
    have HBL := Lib.hid hbl
    have hcon := Lib.hid hcon
    clear hr h' hD hD' hcell e0 hbl hk
    go_enter Tryz.func19, Tryz.ntmps19
    go_wp2_with fail
    refine hcon.out.mono ?_
    rintro e w1 ⟨rfl, hb⟩
    have hbw := below_call hW hb
    have J0 := blk_below hb (blk2 w _ _).1
    obtain ⟨ca, cb, _, _⟩ := two_cells J0
    have c0 : w1.cell? ⟨b, off + k * 10, none⟩ = some (.bool r.permit) := (hb.cell (p := ⟨b, off + k * 10, none⟩) HBL.out).trans E0.out
    go_wp2
    go_ret
    exact ⟨rfl, hbw⟩

theorem eqPref (a n : Int) (d : Nat) (w : World) : (Op.equalIn (d + 1 + 1) 69 (.agg #[.int .u32 a, .int .i64 n]) (.agg #[.int .u32 a, .int .i64 n])).run Tryz.prog w = .ok true w := by
  have hS : Tryz.prog.underlying 69 = some (.struct (Tryz.prog.fieldsOf 69)) := by kernel_rfl
  have hp : Tryz.prog.stoodInHeld 69 = false := by kernel_rfl
  have a1 := Tryz.underlying43
  have a2 := Tryz.isAgg43
  have a3 := Tryz.sizeOf43
  have b1 := Tryz.underlying3
  have b2 := Tryz.isAgg3
  have b3 := Tryz.sizeOf3
  rw [run_equalIn_agg w (d + 1) 69 _ _ hS hp]
  simp only [Program.fieldsOf, Tryz.underlying69]
  go_simp
theorem eqSpan (a n : Int) (d : Nat) (w : World) : (Op.equalIn (d + 1 + 1) 66 (.agg #[.int .u32 a, .int .u32 n]) (.agg #[.int .u32 a, .int .u32 n])).run Tryz.prog w = .ok true w := by
  have hS : Tryz.prog.underlying 66 = some (.struct (Tryz.prog.fieldsOf 66)) := by kernel_rfl
  have hp : Tryz.prog.stoodInHeld 66 = false := by kernel_rfl
  have a1 := Tryz.underlying42
  have a2 := Tryz.isAgg42
  have a3 := Tryz.sizeOf42
  rw [run_equalIn_agg w (d + 1) 66 _ _ hS hp]
  simp only [Program.fieldsOf, Tryz.underlying66]
  go_simp
/-- '!=' says false of a rule and itself. -/
@[go_sem] theorem neqRule (r : RuleV) (w : World) : (binOp .neq 71 (.agg #[.bool r.permit, .int .i64 r.proto, .int .u32 r.sa, .int .i64 r.sn, .int .u32 r.da, .int .i64 r.dn, .int .u32 r.sl, .int .u32 r.sh, .int .u32 r.dl, .int .u32 r.dh]) (.agg #[.bool r.permit, .int .i64 r.proto, .int .u32 r.sa, .int .i64 r.sn, .int .u32 r.da, .int .i64 r.dn, .int .u32 r.sl, .int .u32 r.sh, .int .u32 r.dl, .int .u32 r.dh])).run Tryz.prog w = .ok (.bool false) w := by
  have hS : Tryz.prog.underlying 71 = some (.struct (Tryz.prog.fieldsOf 71)) := by kernel_rfl
  have hp : Tryz.prog.stoodInHeld 71 = false := by kernel_rfl
  have b1 := Tryz.underlying3
  have b2 := Tryz.isAgg3
  have b3 := Tryz.sizeOf3
  have c1 := Tryz.underlying4
  have c2 := Tryz.isAgg4
  have c3 := Tryz.sizeOf4
  have d2 := Tryz.isAgg69
  have d3 := Tryz.sizeOf69
  have e2 := Tryz.isAgg66
  have e3 := Tryz.sizeOf66
  rw [run_neq_struct, show (10000 : Nat) = 9997 + 1 + 1 + 1 from rfl, run_equalIn_agg w (9997 + 1 + 1) 71 _ _ hS hp]
  generalize 9997 = d
  have E1 := fun a n w => eqPref a n d w
  have E2 := fun a n w => eqSpan a n d w
  simp only [Program.fieldsOf, Tryz.underlying71]
  go_simp

end Go.Proofs.YthhcaoljejifeaaGreat

/-
  Walks over the filter's layer: the rules held against each other, the law's own probe (written by wip/gen/genfilt8.py).
-/
namespace Go.Proofs.YthhcaoljejifeaaGreat
open Go Go.RowKit Go.Sort

def pr0 : RuleV := ⟨true, 6, 0, 0, 0, 0, 0, 65535, 80, 80, by omega, by omega, by omega, by omega, by omega, by omega, by omega⟩
def pr1 : RuleV := ⟨false, -1, 0, 0, 0, 0, 0, 65535, 0, 65535, by omega, by omega, by omega, by omega, by omega, by omega, by omega⟩
def ph0 : HeaderV := ⟨0, 0, 6, 0, 80, by omega, by omega, by omega, by omega, by omega⟩
def ph1 : HeaderV := ⟨0, 0, 6, 0, 81, by omega, by omega, by omega, by omega, by omega⟩
end Go.Proofs.YthhcaoljejifeaaGreat
