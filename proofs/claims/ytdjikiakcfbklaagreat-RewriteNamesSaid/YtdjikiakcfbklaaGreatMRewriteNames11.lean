/-
  Joined texts: Fr5, Fr6, Fr7, Fr8, MixZ, Rw9, Rw10, Rw11, RwK, Re1, Dec, Ad1.
-/
import Derived.Test.YtdjikiakcfbklaaGreatMRewriteNames10
import Derived.Deep.DeepCutAuto
import Derived.Test.YtdjikiakcfbklaaGreatMRewriteNames7
import Derived.Test.YtdjikiakcfbklaaGreatMRewriteNames8
import Derived.Test.YtdjikiakcfbklaaGreatMRewriteNames5
import Derived.Lib.AtoiTie
import Derived.Lib.AtoiAllCases
import Derived.Lib.ItoaLen
import Derived.Lib.SplitLaws
import Derived.Lib.Join
import Derived.Test.YtdjikiakcfbklaaGreatMRewriteNames1
import Derived.Test.YtdjikiakcfbklaaGreatShelf
import Derived.Lib.AppendIntMem
import Derived.Lib.AtoiErrMem
import Derived.Lib.SmallJoins
/-
  The sets for which each rule of a filter decides (written by wip/gen/genfr5.py).
-/
namespace Go.Proofs.YtdjikiakcfbklaaGreat
open Go Go.RowKit Go.ChangeMaps Go.MapKept Go.Maps Go.Lib Go.Sort

/-- What Rules comes to: a node for each rule, or no room. -/
def RulesRes (w : World) (B S km : Nat) (A : Blks) (Mo : Nat) (σ : Sg) (L : List RuleV) (k : Nat) (e : Ending) (w' : World) : Prop :=
  KeptS A km w w' ∧ ((e = .returned (.tuple #[.slice none 0 0, .int .i64 3]) ∧ Mo < σ.H.length + k ∧ ∃ τ, SpOk w' B S km A Mo τ ∧ To k k σ τ) ∨
    ∃ (v : Value) (ns : List Nat) (τ : Sg), e = .returned (.tuple #[v, .int .i64 0]) ∧ SpOk w' B S km A Mo τ ∧ To k k σ τ ∧ ns.length = L.length ∧ (∀ i n, ns[i]? = some n → Den τ n (decF L i)) ∧ w'.ownsRow w.heap.size 3 1 v ns.length (ncl ns) ∧ OwnF A km S w' v)
theorem RulesRes.full {w w' : World} {B S km : Nat} {A : Blks} {Mo : Nat} {σ τ : Sg} {L : List RuleV} {k : Nat} {e : Ending} (hk : KeptS A km w w') (h1 : e = .returned (.tuple #[.slice none 0 0, .int .i64 3])) (h2 : Mo < σ.H.length + k) (h3 : SpOk w' B S km A Mo τ) (h4 : To k k σ τ) : RulesRes w B S km A Mo σ L k e w' := ⟨hk, .inl ⟨h1, h2, τ, h3, h4⟩⟩
/-- How much a filter's diagrams may take, rule by rule. -/
def FiltW (L : List RuleV) (K : Nat) : Prop := ∀ (k : Nat) (r : RuleV), L[k]? = some r → (∀ j, j ≤ 5 → Wid (ruleK r j) K) ∧ Wid (decF L k) K ∧ Wid (leftF L (k + 1)) K
theorem rule_may {L : List RuleV} (he : filtE L = 0) : L.length ≤ 256 ∧ ∀ (k : Nat) (r : RuleV), L[k]? = some r → RuleOk r := by
  unfold filtE at he
  split at he
  · cases he
  · split at he
    · cases he
    · rename_i h1 h2
      refine ⟨by omega, fun k r hr => RuleOk.of ?_⟩
      simp only [List.any_eq_true, not_exists, not_and, Bool.not_eq_true'] at h2
      have := h2 r (List.mem_of_getElem? hr)
      simpa using this
theorem den_snoc {τ : Sg} {ns : List Nat} {F : Nat → Fun} {k n : Nat} (h : ∀ i m, ns[i]? = some m → Den τ m (F i)) (hk : ns.length = k) (hd : Den τ n (F k)) : ∀ i m, (ns ++ [n])[i]? = some m → Den τ m (F i) := fun i m hi => by
  rcases Nat.lt_or_ge i ns.length with h1 | h1
  · rw [List.getElem?_append_left h1] at hi
    exact h i m hi
  · rw [List.getElem?_append_right h1] at hi
    have h2 : i = ns.length := by
      have := (List.getElem?_eq_some_iff.1 hi).1
      simp at this
      omega
    subst h2
    rw [Nat.sub_self] at hi
    simp at hi
    subst hi
    rw [hk]
    exact hd
theorem rulesEq_pred (y : RuleV) (bx : Nat) (w : World) (hb : w.heap[bx]? = some (.cells #[.bool y.permit, .int .i64 y.proto, .int .u32 y.sa, .int .i64 y.sn, .int .u32 y.da, .int .i64 y.dn, .int .u32 y.sl, .int .u32 y.sh, .int .u32 y.dl, .int .u32 y.dh] 74 (0, 0))) : PredBelow Tryz.prog 130 #[.pointer (some ⟨bx, 0, none⟩)] (fun x : RuleV => .agg x.enc.toArray) (fun x => sameR x y) w := fun W x hW =>
  (rulesEq_any x y bx W (blk_below hW hb)).mono fun _ _ ⟨he, hb'⟩ => ⟨he, hW.trans (hb'.mono hW.size)⟩
theorem Tryz.infoRuleF : (Tryz.prog.info? 74).map (fun i => (i.zero, i.size, i.bytes)) = some (some (.agg #[.bool false, .int .i64 0, .int .u32 0, .int .i64 0, .int .u32 0, .int .i64 0, .int .u32 0, .int .u32 0, .int .u32 0, .int .u32 0]), 10, 64) := by kernel_rfl
section
variable {w : World} {B S km : Nat} {A : Blks} {Mo : Nat} {σ : Sg}
set_option maxRecDepth 100000
set_option maxHeartbeats 8000000
theorem rules_yes (h : SpOk w B S km A Mo σ) (nm : ByteArray) (L : List RuleV) (vL : Value) (hL : RdF A km w 10 vL L.length (rcells L)) (he : filtE L = 0) (K : Nat) (hK : FiltW L K) (hl : σ.N.length + L.length * (6080 + 7 * K) ≤ 2147483647) :
    Calls Tryz.prog 109 #[.pointer (some ⟨S, 0, none⟩), .agg #[.string nm, vL]] w (RulesRes w B S km A Mo σ L (L.length * (6080 + 7 * K))) := by
  obtain ⟨hlen, hmay⟩ := rule_may he
  obtain ⟨i0, hif, hz0, hz1, hz2⟩ := info_parts Tryz.infoInt
  obtain ⟨j0, jif, jz0, jz1, jz2⟩ := info_parts Tryz.infoRuleF
  obtain ⟨PL, cL, rfl, _⟩ := hL.rd.form
  have hbw := below1 w (.cells #[.string nm, .slice PL L.length cL] 77)
  have hbk := blk1 w (.cells #[.string nm, .slice PL L.length cL] 77)
  have HL := Lib.hid (hL.kept (h.kept hbw))
  have HS := Lib.hid (h.below hbw)
  have HK0 := Lib.hid (h.kept hbw)
  have HB0 := Lib.hid hbw
  have HBK := Lib.hid hbk
  have HWK := Lib.hid hK
  have HMAY := Lib.hid hmay
  have b0 : (w.alloc (.cells #[.string nm, .slice PL L.length cL] 77)).cell? ⟨w.heap.size, 0, none⟩ = some (.string nm) := cell_of_row _ _ 0 _ _ (0, 0) hbk
  have b1 : (w.alloc (.cells #[.string nm, .slice PL L.length cL] 77)).cell? ⟨w.heap.size, 1, none⟩ = some (.slice PL L.length cL) := cell_of_row _ _ 1 _ _ (0, 0) hbk
  have hck := filtCheck_any nm L _ _ HL.out.rd
  rw [he] at hck
  have HCK := Lib.hid hck
  clear h hL he hbw hbk hK hmay hck
  go_enter Tryz.func109, Tryz.ntmps109
  go_upto_region 1 with fail
  generalize w.alloc (.cells #[.string nm, .slice PL L.length cL] 77) = w0 at *
  go_upto_region 6 with ((with_reducible refine HCK.out.mono ?_); rintro e w2 ⟨rfl, hb2⟩; have HB2 := Lib.hid hb2; clear hb2)
  have HS2 := Lib.hid (HS.out.below HB2.out)
  have HK2 := Lib.hid (HK0.out.trans (HS.out.kept HB2.out))
  have HL2 := Lib.hid (HL.out.kept (HS.out.kept HB2.out))
  have HSZ : Hid (w.heap.size ≤ w2.heap.size) := Lib.hid (Nat.le_trans HB0.out.size HB2.out.size)
  have d1 : w2.cell? ⟨w.heap.size, 1, none⟩ = some (.slice PL L.length cL) := cell_of_row _ _ 1 _ _ (0, 0) (blk_below HB2.out HBK.out)
  clear b0 b1 HCK HB2 HS HL HK0 HBK HB0
  go_wp2
  go_loopw [7, 8, 9, 26] (fun q ov sv i wr => ∃ k : Nat, i = .int .i64 k ∧ k ≤ L.length ∧ ∃ (n : Nat) (τ : Sg) (ns : List Nat) (D : List RuleV), q = .int .i64 n ∧ Hid (RuSt w2 wr B S km A Mo τ ov ns sv D) ∧ Hid (ns.length = k) ∧ Hid (To (k * (6080 + 7 * K)) (k * (6080 + 7 * K)) σ τ) ∧ Hid (Den τ n (leftF L k)) ∧ Hid (∀ i m, ns[i]? = some m → Den τ m (decF L i)) ∧ Hid (D.length ≤ k ∧ ∀ d ∈ D, ∃ j x, j < k ∧ L[j]? = some x ∧ ruleF d = ruleF x)) (fun _ _ _ i _ => L.length - (intOf i).toNat)
  case atStart => exact ⟨0, rfl, by omega, 1, σ, [], [], rfl, Lib.hid (RuSt.start HS2.out), Lib.hid rfl, Lib.hid (by rw [Nat.zero_mul]; exact To.refl σ), Lib.hid (Den.one HS2.out.ok), Lib.hid (by simp), Lib.hid ⟨by simp, by simp⟩⟩
  case round =>
    obtain ⟨k, rfl, hk, n, τ, ns, D, rfl, HR, HNS, HT, HD, HDS, HDD⟩ := hrel
    obtain ⟨Ao, co, hove, _⟩ := owns_form HR.out.out
    obtain ⟨As, cs, hsve, _⟩ := owns_form HR.out.seen
    subst hove hsve
    by_cases hlt : k < L.length
    · have hI : (k : Int) < (L.length : Int) := by omega
      obtain ⟨r, hr⟩ : ∃ r, L[k]? = some r := ⟨_, List.getElem?_eq_getElem hlt⟩
      obtain ⟨P', c', hv', _, _, hcell⟩ := HL2.out.kept HR.out.kept
      injection hv' with hP hlq hcq
      subst hP hcq
      clear hlq
      obtain ⟨bL, off, rfl, _, _, hcell⟩ := hcell (by omega)
      have r0 : wr.cell? ⟨bL, off + k * 10, none⟩ = some (.bool r.permit) := hcell (k * 10) _ (rcell (i := 0) hr rfl)
      have r1 : wr.cell? ⟨bL, off + k * 10 + 1, none⟩ = some (.int .i64 r.proto) := by have := hcell (k * 10 + 1) _ (rcell (i := 1) hr rfl); rwa [← Nat.add_assoc] at this
      have r2 : wr.cell? ⟨bL, off + k * 10 + 2, none⟩ = some (.int .u32 r.sa) := by have := hcell (k * 10 + 2) _ (rcell (i := 2) hr rfl); rwa [← Nat.add_assoc] at this
      have r3 : wr.cell? ⟨bL, off + k * 10 + 3, none⟩ = some (.int .i64 r.sn) := by have := hcell (k * 10 + 3) _ (rcell (i := 3) hr rfl); rwa [← Nat.add_assoc] at this
      have r4 : wr.cell? ⟨bL, off + k * 10 + 4, none⟩ = some (.int .u32 r.da) := by have := hcell (k * 10 + 4) _ (rcell (i := 4) hr rfl); rwa [← Nat.add_assoc] at this
      have r5 : wr.cell? ⟨bL, off + k * 10 + 5, none⟩ = some (.int .i64 r.dn) := by have := hcell (k * 10 + 5) _ (rcell (i := 5) hr rfl); rwa [← Nat.add_assoc] at this
      have r6 : wr.cell? ⟨bL, off + k * 10 + 6, none⟩ = some (.int .u32 r.sl) := by have := hcell (k * 10 + 6) _ (rcell (i := 6) hr rfl); rwa [← Nat.add_assoc] at this
      have r7 : wr.cell? ⟨bL, off + k * 10 + 7, none⟩ = some (.int .u32 r.sh) := by have := hcell (k * 10 + 7) _ (rcell (i := 7) hr rfl); rwa [← Nat.add_assoc] at this
      have r8 : wr.cell? ⟨bL, off + k * 10 + 8, none⟩ = some (.int .u32 r.dl) := by have := hcell (k * 10 + 8) _ (rcell (i := 8) hr rfl); rwa [← Nat.add_assoc] at this
      have r9 : wr.cell? ⟨bL, off + k * 10 + 9, none⟩ = some (.int .u32 r.dh) := by have := hcell (k * 10 + 9) _ (rcell (i := 9) hr rfl); rwa [← Nat.add_assoc] at this
      have HRR := Lib.hid hr
      have hok := HMAY.out k r hr
      have hwk := HWK.out k r hr
      have HOK := Lib.hid (And.intro hok hwk)
      have hm1 : (k + 1) * (6080 + 7 * K) ≤ L.length * (6080 + 7 * K) := Nat.mul_le_mul_right _ hlt
      have hm2 : (k + 1) * (6080 + 7 * K) = k * (6080 + 7 * K) + (6080 + 7 * K) := by rw [Nat.add_mul, Nat.one_mul]
      have HM := Lib.hid (And.intro hm1 hm2)
      clear hcell hr hok hwk hm1 hm2
      go_upto_region 13 with fail
      have hb3 := below2 wr (.cells #[.bool r.permit, .int .i64 r.proto, .int .u32 r.sa, .int .i64 r.sn, .int .u32 r.da, .int .i64 r.dn, .int .u32 r.sl, .int .u32 r.sh, .int .u32 r.dl, .int .u32 r.dh] 74) (.cells #[.bool r.permit, .int .i64 r.proto, .int .u32 r.sa, .int .i64 r.sn, .int .u32 r.da, .int .i64 r.dn, .int .u32 r.sl, .int .u32 r.sh, .int .u32 r.dl, .int .u32 r.dh] 74)
      have hs3 : (wr.alloc (.cells #[.bool r.permit, .int .i64 r.proto, .int .u32 r.sa, .int .i64 r.sn, .int .u32 r.da, .int .i64 r.dn, .int .u32 r.sl, .int .u32 r.sh, .int .u32 r.dl, .int .u32 r.dh] 74)).heap.size = wr.heap.size + 1 := by simp
      have ka := blk_below (below1 (wr.alloc (.cells #[.bool r.permit, .int .i64 r.proto, .int .u32 r.sa, .int .i64 r.sn, .int .u32 r.da, .int .i64 r.dn, .int .u32 r.sl, .int .u32 r.sh, .int .u32 r.dl, .int .u32 r.dh] 74)) (.cells #[.bool r.permit, .int .i64 r.proto, .int .u32 r.sa, .int .i64 r.sn, .int .u32 r.da, .int .i64 r.dn, .int .u32 r.sl, .int .u32 r.sh, .int .u32 r.dl, .int .u32 r.dh] 74)) (blk1 wr (.cells #[.bool r.permit, .int .i64 r.proto, .int .u32 r.sa, .int .i64 r.sn, .int .u32 r.da, .int .i64 r.dn, .int .u32 r.sl, .int .u32 r.sh, .int .u32 r.dl, .int .u32 r.dh] 74))
      have kb := blk1 (wr.alloc (.cells #[.bool r.permit, .int .i64 r.proto, .int .u32 r.sa, .int .i64 r.sn, .int .u32 r.da, .int .i64 r.dn, .int .u32 r.sl, .int .u32 r.sh, .int .u32 r.dl, .int .u32 r.dh] 74)) (.cells #[.bool r.permit, .int .i64 r.proto, .int .u32 r.sa, .int .i64 r.sn, .int .u32 r.da, .int .i64 r.dn, .int .u32 r.sl, .int .u32 r.sh, .int .u32 r.dl, .int .u32 r.dh] 74)
      rw [hs3] at kb
      have HR3 := Lib.hid (HR.out.below hb3)
      have HB3 := Lib.hid hb3
      have HA3 := Lib.hid ka
      clear hs3 hb3 r0 r1 r2 r3 r4 r5 r6 r7 r8 r9
      generalize (wr.alloc (.cells #[.bool r.permit, .int .i64 r.proto, .int .u32 r.sa, .int .i64 r.sn, .int .u32 r.da, .int .i64 r.dn, .int .u32 r.sl, .int .u32 r.sh, .int .u32 r.dl, .int .u32 r.dh] 74)).alloc (.cells #[.bool r.permit, .int .i64 r.proto, .int .u32 r.sa, .int .i64 r.sn, .int .u32 r.da, .int .i64 r.dn, .int .u32 r.sl, .int .u32 r.sh, .int .u32 r.dl, .int .u32 r.dh] 74) = w3 at *
      have fz := frozen_of_row w3 _ 0 _ _ kb
      have cz : w3.cell? ⟨wr.heap.size + 1, 0, none⟩ = some (.bool r.permit) := cell_of_row _ _ 0 _ _ (0, 0) kb
      have st : ∀ k, k ≠ wr.heap.size + 1 → (w3.setCell ⟨wr.heap.size + 1, 0, none⟩ (.bool false)).heap[k]? = w3.heap[k]? := fun k hk => Below.heap_setCell w3 ⟨wr.heap.size + 1, 0, none⟩ _ k hk
      have hsz : (w3.setCell ⟨wr.heap.size + 1, 0, none⟩ (.bool false)).heap.size = w3.heap.size := by simp [World.setCell]
      have hb4 : Below wr.heap.size wr (w3.setCell ⟨wr.heap.size + 1, 0, none⟩ (.bool false)) := ⟨HB3.out.os, HB3.out.tape, HB3.out.output, by have := HB3.out.size; omega, fun k hk => (st k (by omega)).trans (HB3.out.block k hk)⟩
      have kb4 : (w3.setCell ⟨wr.heap.size + 1, 0, none⟩ (.bool false)).heap[wr.heap.size + 1]? = some (.cells #[.bool (anyR r).permit, .int .i64 (anyR r).proto, .int .u32 (anyR r).sa, .int .i64 (anyR r).sn, .int .u32 (anyR r).da, .int .i64 (anyR r).dn, .int .u32 (anyR r).sl, .int .u32 (anyR r).sh, .int .u32 (anyR r).dl, .int .u32 (anyR r).dh] 74 (0, 0)) := heap_setCell_same _ _ _ _ _ _ kb
      have ka4 := (st wr.heap.size (by omega)).trans ka
      have HR4 := Lib.hid (HR.out.below hb4)
      have HKA := Lib.hid ka4
      have HKB := Lib.hid kb4
      have HB4 := Lib.hid hb4
      clear st hsz hb4 kb4 ka4 ka kb HR3 HB3 HA3
      go_upto_region 14 with fail
      clear fz cz
      generalize w3.setCell ⟨wr.heap.size + 1, 0, none⟩ (.bool false) = w4 at *
      have HCON := Lib.hid (containsRule_any D _ (fun x => sameR x (anyR r)) 130 #[.pointer (some ⟨wr.heap.size + 1, 0, none⟩)] w4 (enters_of Tryz.func130 (by kernel_rfl) rfl) (rulesEq_pred (anyR r) _ w4 HKB.out) (Rd.of_own HR4.out.seen) (by have := HDD.out.1; omega))
      have HANY := Lib.hid (show D.any (fun x => sameR x (anyR r)) = true → leftF L (k + 1) = leftF L k ∧ decF L k = fun _ => false from fun ha => by
        obtain ⟨d, hd, hs⟩ := List.any_eq_true.1 ha
        obtain ⟨j, x, hj, hx, hdx⟩ := HDD.out.2 d hd
        have he := sameR_eq hs
        subst he
        rw [ruleF_any] at hdx
        have hsub : ∀ s, ruleF r s = true → leftF L k s = false := fun s hs => by
          unfold leftF
          rw [Bool.not_eq_false', List.any_eq_true]
          refine ⟨x, List.mem_of_getElem? (i := j) (by rw [List.getElem?_take_of_lt hj]; exact hx), ?_⟩
          rw [← hdx]; exact hs
        refine ⟨?_, ?_⟩
        · rw [leftF_succ HRR.out]
          funext s
          cases h : ruleF r s
          · simp
          · rw [hsub s h]; rfl
        · rw [decF_eq HRR.out]
          funext s
          cases h : ruleF r s
          · simp
          · rw [hsub s h]; rfl)
      generalize hB : D.any (fun x => sameR x (anyR r)) = Bv at *
      clear hB
      go_wp2_with fail
      refine HCON.out.mono ?_
      rintro e w5 ⟨rfl, hb5⟩
      have HR5 := Lib.hid (HR4.out.below hb5)
      have HKA5 := Lib.hid (blk_below hb5 HKA.out)
      have HKB5 := Lib.hid (blk_below hb5 HKB.out)
      have HB5 := Lib.hid (HB4.out.trans (hb5.mono HB4.out.size))
      have hbs := HR5.out.kept.size
      have hnl := HNS.out
      have hml : ns.length ≤ 1099511627776 := by omega
      clear hb5 HR4 HKA HKB HB4 HCON hnl
      cases Bv with
      | true =>
        obtain ⟨hlf, hdf⟩ := HANY.out rfl
        have HLF := Lib.hid hlf
        have HDF := Lib.hid hdf
        clear hlf hdf HANY
        go_wp2_with (at_builtin; refine wpList_push2 (v := .slice Ao ns.length co) rfl _ _ 93 rfl 3 i0 _ 1 8 Tryz.underlying93 hif hz0 hz1 hz2 rfl (by decide) (by decide) [.int .i64 0] rfl rfl rfl HR5.out.out rfl (one_i64 _) hml hbs ?_; intro v6 w6 ho6 hg6 hm6; have HR6 := Lib.hid (HR5.out.pushOut (n := 0) ho6 hg6 hm6); obtain ⟨A6, c6, hv6, _⟩ := owns_form ho6; subst hv6; clear ho6 hg6 hm6)
        exact ⟨⟨k + 1, by go_num, by omega, n, τ, ns ++ [0], D, rfl, HR6, Lib.hid (by simp [HNS.out]), Lib.hid (HT.out.mono (by have := HM.out; omega) (by have := HM.out; omega)), Lib.hid (by rw [HLF.out]; exact HD.out), Lib.hid (den_snoc HDS.out HNS.out (by rw [HDF.out]; exact Den.zero HR6.out.sp.ok)), Lib.hid ⟨by have := HDD.out.1; omega, fun d hd => by obtain ⟨j, x, h1, h2, h3⟩ := HDD.out.2 d hd; exact ⟨j, x, by omega, h2, h3⟩⟩⟩, by simp only [intOf]; omega⟩
      | false =>
        clear HANY
        have a0 : w5.cell? ⟨wr.heap.size + 1, 0, none⟩ = some (.bool (anyR r).permit) := cell_of_row _ _ 0 _ _ (0, 0) HKB5.out
        have a1 : w5.cell? ⟨wr.heap.size + 1, 1, none⟩ = some (.int .i64 (anyR r).proto) := cell_of_row _ _ 1 _ _ (0, 0) HKB5.out
        have a2 : w5.cell? ⟨wr.heap.size + 1, 2, none⟩ = some (.int .u32 (anyR r).sa) := cell_of_row _ _ 2 _ _ (0, 0) HKB5.out
        have a3 : w5.cell? ⟨wr.heap.size + 1, 3, none⟩ = some (.int .i64 (anyR r).sn) := cell_of_row _ _ 3 _ _ (0, 0) HKB5.out
        have a4 : w5.cell? ⟨wr.heap.size + 1, 4, none⟩ = some (.int .u32 (anyR r).da) := cell_of_row _ _ 4 _ _ (0, 0) HKB5.out
        have a5 : w5.cell? ⟨wr.heap.size + 1, 5, none⟩ = some (.int .i64 (anyR r).dn) := cell_of_row _ _ 5 _ _ (0, 0) HKB5.out
        have a6 : w5.cell? ⟨wr.heap.size + 1, 6, none⟩ = some (.int .u32 (anyR r).sl) := cell_of_row _ _ 6 _ _ (0, 0) HKB5.out
        have a7 : w5.cell? ⟨wr.heap.size + 1, 7, none⟩ = some (.int .u32 (anyR r).sh) := cell_of_row _ _ 7 _ _ (0, 0) HKB5.out
        have a8 : w5.cell? ⟨wr.heap.size + 1, 8, none⟩ = some (.int .u32 (anyR r).dl) := cell_of_row _ _ 8 _ _ (0, 0) HKB5.out
        have a9 : w5.cell? ⟨wr.heap.size + 1, 9, none⟩ = some (.int .u32 (anyR r).dh) := cell_of_row _ _ 9 _ _ (0, 0) HKB5.out
        have hdl : D.length ≤ 1099511627776 := by have := HDD.out.1; omega
        have HLTS := Lib.hid (fun g hg => (HR.out.seen.lt g hg).2)
        go_upto_region 17 with (at_builtin; refine wpList_push2 (v := .slice As D.length cs) rfl _ _ 75 rfl 74 j0 _ 10 64 Tryz.underlying75 jif jz0 jz1 jz2 rfl (by decide) (by decide) (anyR r).enc rfl rfl rfl HR5.out.seen rfl (by intro u hu; simp only [RuleV.enc, List.mem_cons, List.not_mem_nil, or_false] at hu; rcases hu with rfl | rfl | rfl | rfl | rfl | rfl | rfl | rfl | rfl | rfl <;> rfl) hdl hbs ?_; intro v6 w6 ho6 hg6 hm6; have HR6 := Lib.hid (HR5.out.pushSeen ho6 hg6 hm6); have HKA6 := Lib.hid ((hg6.block _ (lt_of_block HKA5.out) (fun e => by have := HLTS.out _ e.symm; omega)).trans HKA5.out); obtain ⟨A6, c6, hv6, _⟩ := owns_form ho6; subst hv6; clear ho6 hg6 hm6)
        clear a0 a1 a2 a3 a4 a5 a6 a7 a8 a9 HKA5 HKB5 HR5 HLTS hdl hbs
        have e0 : w6.cell? ⟨wr.heap.size, 0, none⟩ = some (.bool r.permit) := cell_of_row _ _ 0 _ _ (0, 0) HKA6.out
        have e1 : w6.cell? ⟨wr.heap.size, 1, none⟩ = some (.int .i64 r.proto) := cell_of_row _ _ 1 _ _ (0, 0) HKA6.out
        have e2 : w6.cell? ⟨wr.heap.size, 2, none⟩ = some (.int .u32 r.sa) := cell_of_row _ _ 2 _ _ (0, 0) HKA6.out
        have e3 : w6.cell? ⟨wr.heap.size, 3, none⟩ = some (.int .i64 r.sn) := cell_of_row _ _ 3 _ _ (0, 0) HKA6.out
        have e4 : w6.cell? ⟨wr.heap.size, 4, none⟩ = some (.int .u32 r.da) := cell_of_row _ _ 4 _ _ (0, 0) HKA6.out
        have e5 : w6.cell? ⟨wr.heap.size, 5, none⟩ = some (.int .i64 r.dn) := cell_of_row _ _ 5 _ _ (0, 0) HKA6.out
        have e6 : w6.cell? ⟨wr.heap.size, 6, none⟩ = some (.int .u32 r.sl) := cell_of_row _ _ 6 _ _ (0, 0) HKA6.out
        have e7 : w6.cell? ⟨wr.heap.size, 7, none⟩ = some (.int .u32 r.sh) := cell_of_row _ _ 7 _ _ (0, 0) HKA6.out
        have e8 : w6.cell? ⟨wr.heap.size, 8, none⟩ = some (.int .u32 r.dl) := cell_of_row _ _ 8 _ _ (0, 0) HKA6.out
        have e9 : w6.cell? ⟨wr.heap.size, 9, none⟩ = some (.int .u32 r.dh) := cell_of_row _ _ 9 _ _ (0, 0) HKA6.out
        have hnl := HT.out.nl
        have hm := HM.out
        have HRU := Lib.hid (rule_yes HR6.out.sp r HOK.out.1 K HOK.out.2.1 (by omega))
        clear hnl hm HKA6
        go_upto_region 18 with ((with_reducible refine HRU.out.mono ?_); rintro e w7 hr7; obtain ⟨q7, c7, he7⟩ := hr7.form; have HR7 := Lib.hid hr7; subst he7; clear hr7)
        clear e0 e1 e2 e3 e4 e5 e6 e7 e8 e9
        rcases HR7.out.two with ⟨rfl, rfl, hlt7, τ7, hs7, ht7⟩ | ⟨r7, τ7, rfl, rfl, hs7, ht7, hd7⟩
        · have HFIN := Lib.hid (RulesRes.full (L := L) (HK2.out.trans (HR6.out.kept.trans HR7.out.1)) rfl (by have := HT.out.hl; have := HM.out; omega) hs7 ((HT.out.trans ht7).mono (show k * (6080 + 7 * K) + 5 * (1216 + K) ≤ L.length * (6080 + 7 * K) by have := HM.out; omega) (show k * (6080 + 7 * K) + 5 * (1216 + K) ≤ L.length * (6080 + 7 * K) by have := HM.out; omega)))
          clear hlt7 hs7 ht7
          go_wp2
          go_ret2
          exact HFIN.out
        · have HS7 := Lib.hid (HR6.out.space HR7.out.1 hs7)
          have HT7 := Lib.hid (HT.out.trans ht7)
          have HD7 := Lib.hid hd7
          have HL7 := Lib.hid (HD.out.to ht7 HR6.out.sp.ok hs7.ok)
          have HDS7 : Hid (∀ i m, ns[i]? = some m → Den τ7 m (decF L i)) := Lib.hid fun i m hi => (HDS.out i m hi).to ht7 HR6.out.sp.ok hs7.ok
          have hnl := HT7.out.nl
          have hm := HM.out
          have hde : decF L k = fun s => leftF L k s && ruleF r s := decF_eq HRR.out
          have hwd := HOK.out.2.2.1
          rw [hde] at hwd
          have HAN := Lib.hid (show Calls Tryz.prog 15 #[.pointer (some ⟨S, 0, none⟩), .int .i64 n, .int .i64 r7] w7 (SpRes w7 B S km A Mo τ7 (fun s => leftF L k s && ruleF r s) K K) from relAnd_yes hs7 HL7.out hd7 (leftF_set L k) (ruleK_set r _) (a := K) (b := K) (Grow.wid hs7.ok.wf.two hwd) (by omega))
          have HDE := Lib.hid hde
          clear hs7 ht7 hd7 HR7 HRU hnl hm hde hwd
          go_upto_region 21 with ((with_reducible refine HAN.out.mono ?_); rintro e w8 hr8; obtain ⟨q8, c8, he8⟩ := hr8.form; have HR8 := Lib.hid hr8; subst he8; clear hr8)
          rcases HR8.out.two with ⟨rfl, rfl, hlt8, τ8, hs8, ht8⟩ | ⟨r8, τ8, rfl, rfl, hs8, ht8, hd8⟩
          · have HFIN := Lib.hid (RulesRes.full (L := L) (HK2.out.trans (HS7.out.kept.trans HR8.out.1)) rfl (by have := HT7.out.hl; have := HM.out; omega) hs8 ((HT7.out.trans ht8).mono (show k * (6080 + 7 * K) + 5 * (1216 + K) + K ≤ L.length * (6080 + 7 * K) by have := HM.out; omega) (show k * (6080 + 7 * K) + 5 * (1216 + K) + K ≤ L.length * (6080 + 7 * K) by have := HM.out; omega)))
            clear hlt8 hs8 ht8
            go_wp2
            go_ret2
            exact HFIN.out
          · have HS8 := Lib.hid (HS7.out.space HR8.out.1 hs8)
            have HT8 := Lib.hid (HT7.out.trans ht8)
            have HD8 : Hid (Den τ8 r8 (decF L k)) := Lib.hid (by rw [HDE.out]; exact hd8)
            have HX8 := Lib.hid (HD7.out.to ht8 HS7.out.sp.ok hs8.ok)
            have HL8 := Lib.hid (HL7.out.to ht8 HS7.out.sp.ok hs8.ok)
            have HDS8 : Hid (∀ i m, ns[i]? = some m → Den τ8 m (decF L i)) := Lib.hid fun i m hi => (HDS7.out i m hi).to ht8 HS7.out.sp.ok hs8.ok
            have hnl := HT8.out.nl
            have hm := HM.out
            have hde : leftF L (k + 1) = fun s => leftF L k s && !ruleF r s := leftF_succ HRR.out
            have hwd := HOK.out.2.2.2
            rw [hde] at hwd
            have HLE := Lib.hid (show Calls Tryz.prog 17 #[.pointer (some ⟨S, 0, none⟩), .int .i64 n, .int .i64 r7] w8 (SpRes w8 B S km A Mo τ8 (fun s => leftF L k s && !ruleF r s) K K) from relLess_yes hs8 HL8.out HX8.out (leftF_set L k) (ruleK_set r _) (a := K) (b := K) (Grow.wid hs8.ok.wf.two hwd) (by omega))
            have HDE2 := Lib.hid hde
            clear hs8 ht8 hd8 HR8 HAN hnl hm hde hwd HDS7 HL7 HD7 HS7 HT7 HDE
            go_upto_region 24 with ((with_reducible refine HLE.out.mono ?_); rintro e w9 hr9; obtain ⟨q9, c9, he9⟩ := hr9.form; have HR9 := Lib.hid hr9; subst he9; clear hr9)
            rcases HR9.out.two with ⟨rfl, rfl, hlt9, τ9, hs9, ht9⟩ | ⟨r9, τ9, rfl, rfl, hs9, ht9, hd9⟩
            · have HFIN := Lib.hid (RulesRes.full (L := L) (HK2.out.trans (HS8.out.kept.trans HR9.out.1)) rfl (by have := HT8.out.hl; have := HM.out; omega) hs9 ((HT8.out.trans ht9).mono (show k * (6080 + 7 * K) + 5 * (1216 + K) + K + K ≤ L.length * (6080 + 7 * K) by have := HM.out; omega) (show k * (6080 + 7 * K) + 5 * (1216 + K) + K + K ≤ L.length * (6080 + 7 * K) by have := HM.out; omega)))
              clear hlt9 hs9 ht9
              go_wp2
              go_ret2
              exact HFIN.out
            · have HS9 := Lib.hid (HS8.out.space HR9.out.1 hs9)
              have HT9 := Lib.hid ((HT8.out.trans ht9).mono (show k * (6080 + 7 * K) + 5 * (1216 + K) + K + K ≤ (k + 1) * (6080 + 7 * K) by have := HM.out; omega) (show k * (6080 + 7 * K) + 5 * (1216 + K) + K + K ≤ (k + 1) * (6080 + 7 * K) by have := HM.out; omega))
              have HD9 : Hid (Den τ9 r9 (leftF L (k + 1))) := Lib.hid (by rw [HDE2.out]; exact hd9)
              have HX9 := Lib.hid (HD8.out.to ht9 HS8.out.sp.ok hs9.ok)
              have HDS9 : Hid (∀ i m, ns[i]? = some m → Den τ9 m (decF L i)) := Lib.hid fun i m hi => (HDS8.out i m hi).to ht9 HS8.out.sp.ok hs9.ok
              have hbs := HS9.out.kept.size
              clear hs9 ht9 hd9 HR9 HLE HS8 HT8 HD8 HX8 HL8 HDS8 HDE2
              go_wp2_with (at_builtin; refine wpList_push2 (v := .slice Ao ns.length co) rfl _ _ 93 rfl 3 i0 _ 1 8 Tryz.underlying93 hif hz0 hz1 hz2 rfl (by decide) (by decide) [.int .i64 r8] rfl rfl rfl HS9.out.out rfl (one_i64 _) hml hbs ?_; intro v10 w10 ho10 hg10 hm10; have HR10 := Lib.hid (HS9.out.pushOut (n := r8) ho10 hg10 hm10); obtain ⟨A10, c10, hv10, _⟩ := owns_form ho10; subst hv10; clear ho10 hg10 hm10)
              exact ⟨⟨k + 1, by go_num, by omega, r9, τ9, ns ++ [r8], D ++ [anyR r], rfl, HR10, Lib.hid (by simp [HNS.out]), HT9, HD9, Lib.hid (den_snoc HDS9.out HNS.out HX9.out), Lib.hid ⟨by have := HDD.out.1; simp; omega, fun d hd => by
                rcases List.mem_append.1 hd with hd | hd
                · obtain ⟨j, x, h1, h2, h3⟩ := HDD.out.2 d hd
                  exact ⟨j, x, by omega, h2, h3⟩
                · obtain rfl := List.mem_singleton.1 hd
                  exact ⟨k, r, by omega, HRR.out, ruleF_any r⟩⟩⟩, by simp only [intOf]; omega⟩
    · obtain rfl : k = L.length := by omega
      have hI : ¬ (L.length : Int) < (L.length : Int) := by omega
      have HFIN : Hid (RulesRes w B S km A Mo σ L (L.length * (6080 + 7 * K)) (.returned (.tuple #[.slice Ao ns.length co, .int .i64 0])) wr) := Lib.hid ⟨HK2.out.trans HR.out.kept, .inr ⟨_, ns, τ, rfl, HR.out.sp, HT.out, HNS.out, HDS.out, owns_base HR.out.out HSZ.out, HR.out.outf⟩⟩
      go_wp2
      go_ret2
      exact HFIN.out
end
end Go.Proofs.YtdjikiakcfbklaaGreat

/-
  What a filter permits, as a set; the refusals.
-/
namespace Go.Proofs.YtdjikiakcfbklaaGreat
open Go Go.RowKit Go.ChangeMaps Go.MapKept Go.Maps Go.Lib Go.Sort

def permitAt (L : List RuleV) (k : Nat) : Bool := (L[k]?.map (·.permit)).getD false
/-- What the first k rules permit. -/
def setF (L : List RuleV) : Nat → Fun
  | 0 => fun _ => false
  | k + 1 => if permitAt L k then fun s => setF L k s || decF L k s else setF L k
theorem decF_set' (L : List RuleV) (k : Nat) : SetF (decF L k) := by
  cases h : L[k]? with
  | none =>
    have e : decF L k = fun _ => false := funext fun s => by unfold decF ruleAt; rw [h]; simp
    rw [e]
    exact SetF.const false
  | some r => exact decF_set h
theorem setF_set (L : List RuleV) : ∀ k, SetF (setF L k)
  | 0 => SetF.const false
  | k + 1 => by
    unfold setF
    split
    · exact (setF_set L k).op2 (fun x y => x || y) (decF_set' L k)
    · exact setF_set L k
section
variable {w : World} {B S km : Nat} {A : Blks} {Mo : Nat} {σ : Sg}
set_option maxRecDepth 100000
set_option maxHeartbeats 8000000
theorem set_yes (h : SpOk w B S km A Mo σ) (nm : ByteArray) (L : List RuleV) (vL : Value) (hL : RdF A km w 10 vL L.length (rcells L)) (he : filtE L = 0) (K : Nat) (hK : FiltW L K) (hKs : ∀ k, k ≤ L.length → Wid (setF L k) K) (hl : σ.N.length + L.length * (6080 + 8 * K) ≤ 2147483647) :
    Calls Tryz.prog 70 #[.pointer (some ⟨S, 0, none⟩), .agg #[.string nm, vL]] w (SpRes w B S km A Mo σ (setF L L.length) (L.length * (6080 + 8 * K)) (L.length * (6080 + 8 * K))) := by
  obtain ⟨hlen, _⟩ := rule_may he
  obtain ⟨PL, cL, rfl, _⟩ := hL.rd.form
  have hbw := below1 w (.cells #[.string nm, .slice PL L.length cL] 77)
  have hbk := blk1 w (.cells #[.string nm, .slice PL L.length cL] 77)
  have hmul : L.length * (6080 + 8 * K) = L.length * (6080 + 7 * K) + L.length * K := by rw [← Nat.mul_add]; congr 1; omega
  have HL := Lib.hid (hL.kept (h.kept hbw))
  have HS := Lib.hid (h.below hbw)
  have HK0 := Lib.hid (h.kept hbw)
  have HFO := Lib.hid (h.sp.ar.foreign_new hbw (Nat.le_refl _) (lt_of_block hbk))
  have HNE : Hid (w.heap.size ≠ km) := Lib.hid (by have := h.sp.fk.1; omega)
  have HBK := Lib.hid hbk
  have b0 : (w.alloc (.cells #[.string nm, .slice PL L.length cL] 77)).cell? ⟨w.heap.size, 0, none⟩ = some (.string nm) := cell_of_row _ _ 0 _ _ (0, 0) hbk
  have b1 : (w.alloc (.cells #[.string nm, .slice PL L.length cL] 77)).cell? ⟨w.heap.size, 1, none⟩ = some (.slice PL L.length cL) := cell_of_row _ _ 1 _ _ (0, 0) hbk
  have HRU := Lib.hid (rules_yes HS.out nm L _ HL.out he K hK (by omega))
  have HWS := Lib.hid hKs
  have HMUL := Lib.hid (And.intro hmul hl)
  clear h hL he hbw hbk hK hKs hmul hl
  go_enter Tryz.func70, Tryz.ntmps70
  go_upto_region 1 with fail
  generalize w.alloc (.cells #[.string nm, .slice PL L.length cL] 77) = w0 at *
  go_wp2_with fail
  refine HRU.out.mono ?_
  rintro e w2 ⟨hk2, hres⟩
  have HK2 := Lib.hid hk2
  rcases hres with ⟨rfl, hlt2, τ2, hs2, ht2⟩ | ⟨v, ns, τ2, rfl, hs2, ht2, hns, hds, hown, hof⟩
  · have HFIN := Lib.hid (SpRes.full (F := setF L L.length) (HK0.out.trans hk2) rfl (by have := HMUL.out.1; omega) hs2 (ht2.mono (show L.length * (6080 + 7 * K) ≤ L.length * (6080 + 8 * K) by have := HMUL.out.1; omega) (show L.length * (6080 + 7 * K) ≤ L.length * (6080 + 8 * K) by have := HMUL.out.1; omega)))
    clear hlt2 hs2 ht2 hk2
    go_wp2
    go_ret2
    exact HFIN.out
  · obtain ⟨Av, cv, hve, hav⟩ := owns_form hown
    subst hve
    have HS2 := Lib.hid hs2
    have HT2 := Lib.hid ht2
    have HD2 := Lib.hid hds
    have HNS := Lib.hid hns
    have HOW := Lib.hid hown
    have HOF := Lib.hid hof
    have HAV := Lib.hid hav
    have HL2 := Lib.hid (HL.out.kept hk2)
    have HBX : Hid (∀ W, KeptS A km w2 W → W.cell? ⟨w.heap.size, 1, none⟩ = some (.slice PL L.length cL)) := Lib.hid fun W hW =>
      cell_of_row W _ 1 _ _ (0, 0) (((hk2.trans hW).same _ HFO.out HNE.out).1.trans HBK.out)
    have hnI : (ns.length : Int) = (L.length : Int) := by omega
    rw [hns]
    clear hs2 ht2 hds hown hof hav hk2 b0 b1 HRU HFO HNE HBK HL hnI
    have hns' := HNS.out
    clear hns
    go_wp2
    go_loopw [8, 22] (fun f i wr => ∃ k : Nat, i = .int .i64 k ∧ k ≤ L.length ∧ ∃ (q : Nat) (τ : Sg), f = .int .i64 q ∧ Hid (SpOk wr B S km A Mo τ) ∧ Hid (To (L.length * (6080 + 7 * K) + k * K) (L.length * (6080 + 7 * K) + k * K) σ τ) ∧ Hid (To (k * K) (k * K) τ2 τ) ∧ Hid (Den τ q (setF L k)) ∧ Hid (KeptS A km w2 wr)) (fun _ i _ => L.length - (intOf i).toNat)
    case atStart => exact ⟨0, rfl, by omega, 0, τ2, rfl, HS2, Lib.hid (by rw [Nat.zero_mul, Nat.add_zero]; exact HT2.out), Lib.hid (by rw [Nat.zero_mul]; exact To.refl _), Lib.hid (Den.zero HS2.out.ok), Lib.hid (KeptS.refl _ _ _)⟩
    case round =>
      obtain ⟨k, rfl, hk, q, τ, rfl, HSR, HTR, HTT, HDR, HKR⟩ := hrel
      have b1 := HBX.out wr HKR.out
      by_cases hlt : k < L.length
      · have hI : (k : Int) < (L.length : Int) := by omega
        obtain ⟨r, hr⟩ : ∃ r, L[k]? = some r := ⟨_, List.getElem?_eq_getElem hlt⟩
        obtain ⟨P', c', hv', _, _, hcell⟩ := HL2.out.kept HKR.out
        injection hv' with hP hlq hcq
        subst hP hcq
        clear hlq
        obtain ⟨bL, off, rfl, _, _, hcell⟩ := hcell (by omega)
        have r0 : wr.cell? ⟨bL, off + k * 10, none⟩ = some (.bool r.permit) := hcell (k * 10) _ (rcell (i := 0) hr rfl)
        obtain ⟨x, hx⟩ : ∃ x, ns[k]? = some x := ⟨_, List.getElem?_eq_getElem (by have := HNS.out; omega)⟩
        obtain ⟨g, hg⟩ := HAV.out (by have := HNS.out; omega)
        subst hg
        have hfo := HOF.out g rfl
        have hxc : wr.cell? ⟨g, k, none⟩ = some (.int .i64 x) := (World.cell?_of_block (HKR.out.same g hfo.1 hfo.2.1).1).trans ((HOW.out.cellAt k (by have := HNS.out; omega)).trans (by simp [ncl, hx]))
        have HDX := Lib.hid ((HD2.out k x hx).to HTT.out HS2.out.ok HSR.out.ok)
        have hpa : permitAt L k = r.permit := by unfold permitAt; rw [hr]; rfl
        have hm1 : (k + 1) * K ≤ L.length * K := Nat.mul_le_mul_right _ hlt
        have hm2 : (k + 1) * K = k * K + K := by rw [Nat.add_mul, Nat.one_mul]
        have HM := Lib.hid (And.intro hm1 hm2)
        have hwk := HWS.out (k + 1) (by omega)
        have HSF : Hid (setF L (k + 1) = if r.permit then fun s => setF L k s || decF L k s else setF L k) := Lib.hid (by rw [← hpa]; rfl)
        clear hcell hr hx hfo hm1 hm2 hpa
        cases hp : r.permit with
        | false =>
          rw [hp] at r0 HSF
          have HD8 : Hid (Den τ q (setF L (k + 1))) := Lib.hid (by rw [HSF.out]; exact HDR.out)
          have HT8 := Lib.hid (HTR.out.mono (show L.length * (6080 + 7 * K) + k * K ≤ L.length * (6080 + 7 * K) + (k + 1) * K by have := HM.out; omega) (show L.length * (6080 + 7 * K) + k * K ≤ L.length * (6080 + 7 * K) + (k + 1) * K by have := HM.out; omega))
          have HTT8 := Lib.hid (HTT.out.mono (show k * K ≤ (k + 1) * K by have := HM.out; omega) (show k * K ≤ (k + 1) * K by have := HM.out; omega))
          clear hp hwk
          go_wp2
          exact ⟨⟨k + 1, by go_num, by omega, q, τ, rfl, HSR, HT8, HTT8, HD8, HKR⟩, by simp only [intOf]; omega⟩
        | true =>
          rw [hp] at r0 HSF
          have hnl := HTR.out.nl
          have hmm := HMUL.out
          have hm := HM.out
          have hsf : setF L (k + 1) = fun s => setF L k s || decF L k s := by rw [HSF.out]; rfl
          rw [hsf] at hwk
          have HOR := Lib.hid (show Calls Tryz.prog 16 #[.pointer (some ⟨S, 0, none⟩), .int .i64 q, .int .i64 x] wr (SpRes wr B S km A Mo τ (fun s => setF L k s || decF L k s) K K) from relOr_yes HSR.out HDR.out HDX.out (setF_set L k) (decF_set' L k) (a := K) (b := K) (Grow.wid HSR.out.ok.wf.two hwk) (by omega))
          have HSF2 := Lib.hid hsf
          clear hnl hmm hm hwk hsf hp
          go_upto_region 10 with ((with_reducible refine HOR.out.mono ?_); rintro e w8 hr8; obtain ⟨q8, c8, he8⟩ := hr8.form; have HR8 := Lib.hid hr8; subst he8; clear hr8)
          rcases HR8.out.two with ⟨rfl, rfl, hlt8, τ8, hs8, ht8⟩ | ⟨r8, τ8, rfl, rfl, hs8, ht8, hd8⟩
          · have HFIN := Lib.hid (SpRes.full (F := setF L L.length) (HK0.out.trans (HK2.out.trans (HKR.out.trans HR8.out.1))) rfl (by have := HTR.out.hl; have := HM.out; have := HMUL.out.1; omega) hs8 ((HTR.out.trans ht8).mono (show L.length * (6080 + 7 * K) + k * K + K ≤ L.length * (6080 + 8 * K) by have := HM.out; have := HMUL.out.1; omega) (show L.length * (6080 + 7 * K) + k * K + K ≤ L.length * (6080 + 8 * K) by have := HM.out; have := HMUL.out.1; omega)))
            clear hlt8 hs8 ht8
            go_wp2
            go_ret2
            exact HFIN.out
          · have HS8 := Lib.hid hs8
            have HT8 := Lib.hid ((HTR.out.trans ht8).mono (show L.length * (6080 + 7 * K) + k * K + K ≤ L.length * (6080 + 7 * K) + (k + 1) * K by have := HM.out; omega) (show L.length * (6080 + 7 * K) + k * K + K ≤ L.length * (6080 + 7 * K) + (k + 1) * K by have := HM.out; omega))
            have HTT8 := Lib.hid ((HTT.out.trans ht8).mono (show k * K + K ≤ (k + 1) * K by have := HM.out; omega) (show k * K + K ≤ (k + 1) * K by have := HM.out; omega))
            have HD8 : Hid (Den τ8 r8 (setF L (k + 1))) := Lib.hid (by rw [HSF2.out]; exact hd8)
            have HK8 := Lib.hid (HKR.out.trans HR8.out.1)
            clear hs8 ht8 hd8 HR8 HOR
            go_wp2
            exact ⟨⟨k + 1, by go_num, by omega, r8, τ8, rfl, HS8, HT8, HTT8, HD8, HK8⟩, by simp only [intOf]; omega⟩
      · obtain rfl : k = L.length := by omega
        have hI : ¬ (L.length : Int) < (L.length : Int) := by omega
        have HFIN : Hid (SpRes w B S km A Mo σ (setF L L.length) (L.length * (6080 + 8 * K)) (L.length * (6080 + 8 * K)) (.returned (.tuple #[.int .i64 q, .int .i64 0])) wr) := Lib.hid ⟨HK0.out.trans (HK2.out.trans HKR.out), .inr ⟨q, τ, rfl, HSR.out, HTR.out.mono (Nat.le_of_eq HMUL.out.1.symm) (Nat.le_of_eq HMUL.out.1.symm), HDR.out⟩⟩
        go_wp2
        go_ret2
        exact HFIN.out
end
end Go.Proofs.YtdjikiakcfbklaaGreat

/-
  Rules without bounds; nobody's space.
-/
namespace Go.Proofs.YtdjikiakcfbklaaGreat
open Go Go.RowKit Go.ChangeMaps Go.MapKept Go.Maps Go.Lib Go.Sort

theorem reachF_zero (a n : Nat) : ∀ m, reachF a n 0 true m = fun _ => true
  | 0 => rfl
  | m + 1 => by
    unfold reachF stepF
    rw [reachF_zero a n m]
    funext s
    simp
theorem reachF_top (a n k : Nat) : ∀ m, m ≤ k → reachF a n (2 ^ k - 1) false m = fun _ => true
  | 0, _ => rfl
  | m + 1, hm => by
    have hb : (2 ^ k - 1).testBit m = true := by rw [Nat.testBit_two_pow_sub_one]; simp; omega
    unfold reachF stepF
    rw [reachF_top a n k m (by omega), hb]
    funext s
    simp
theorem spanF_all (a n k : Nat) (h : n ≤ k) : spanF a n 0 (2 ^ k - 1) = fun _ => true := by
  unfold spanF
  rw [reachF_zero, reachF_top a n k n h]
  rfl
/-- The rule without bounds, of a protocol or of any. -/
def wideR (permit : Bool) (p : Int) (hp : -1 ≤ p ∧ p ≤ 255) : RuleV := ⟨permit, p, 0, 0, 0, 0, 0, 65535, 0, 65535, by omega, by omega, by omega, by omega, by omega, by omega, by omega⟩
theorem wide_ask (b : Bool) (p : Int) (hp : -1 ≤ p ∧ p ≤ 255) : ∀ k, k < 4 → askF (wideR b p hp) k = fun _ => true := by
  intro k hk
  obtain rfl | rfl | rfl | rfl : k = 0 ∨ k = 1 ∨ k = 2 ∨ k = 3 := by omega
  · rfl
  · rfl
  · exact spanF_all 72 16 16 (Nat.le_refl _)
  · exact spanF_all 88 16 16 (Nat.le_refl _)
theorem wide_ruleK (b : Bool) (p : Int) (hp : -1 ≤ p ∧ p ≤ 255) : ∀ k, k ≤ 4 → ruleK (wideR b p hp) k = fun _ => true
  | 0, _ => rfl
  | k + 1, hk => by
    unfold ruleK
    rw [wide_ruleK b p hp k (by omega), wide_ask b p hp k (by omega)]
    rfl
theorem wide_five (b : Bool) (p : Int) (hp : -1 ≤ p ∧ p ≤ 255) : ruleK (wideR b p hp) 5 = spanF 64 8 p.toNat p.toNat := by
  show (fun s => ruleK (wideR b p hp) 4 s && askF (wideR b p hp) 4 s) = _
  rw [wide_ruleK b p hp 4 (Nat.le_refl _)]
  rfl
theorem wide_ruleF (b : Bool) (p : Int) (hp : -1 ≤ p ∧ p ≤ 255) : ruleF (wideR b p hp) = if 0 ≤ p then spanF 64 8 p.toNat p.toNat else fun _ => true := by
  unfold ruleF asksN
  show ruleK _ (if 0 ≤ p then 5 else 4) = _
  split
  · exact wide_five b p hp
  · exact wide_ruleK b p hp 4 (Nat.le_refl _)
theorem Wid.const (b : Bool) : Wid (fun _ => b) 0 := (Wid.seg (a := 0) (b := 0) (k := 1) (Hangs.const b 0 0) (by omega) (fun v => CutLe.const b v)).mono (by omega)
theorem wide_wid (b : Bool) (p : Int) (hp : -1 ≤ p ∧ p ≤ 255) : ∀ j, j ≤ 5 → Wid (ruleK (wideR b p hp) j) 576 := by
  intro j hj
  rcases Nat.lt_or_ge j 5 with h | h
  · rw [wide_ruleK b p hp j (by omega)]
    exact (Wid.const true).mono (by omega)
  · obtain rfl : j = 5 := by omega
    rw [wide_five b p hp]
    exact spanF_wid 64 8 _ _ (by omega) (by omega)
theorem wide_may (b : Bool) (p : Int) (hp : -1 ≤ p ∧ p ≤ 255) : mayB (wideR b p hp) = true := by
  unfold mayB
  have h1 : chk 0 0 = 0 := by decide
  show (decide (-1 ≤ p) && decide (p ≤ 255) && decide (chk 0 0 = 0) && decide (chk 0 0 = 0) && portsB 0 65535 && portsB 0 65535) = true
  rw [h1]
  simp [portsB, hp.1, hp.2]
theorem RdF.none (A : Blks) (km : Nat) (w : World) (k : Nat) : RdF A km w k (.slice none 0 0) 0 [] := ⟨_, 0, rfl, Nat.le_refl _, by simp, fun h => absurd h (by omega)⟩
section
set_option maxRecDepth 100000
set_option maxHeartbeats 2000000
theorem rules_nil (w : World) (fv : Value) (nm : ByteArray) : Calls Tryz.prog 109 #[.pointer none, .agg #[.string nm, fv]] w fun e w' => e = .returned (.tuple #[.slice none 0 0, .int .i64 2]) ∧ Below w.heap.size w w' := by
  go_enter Tryz.func109, Tryz.ntmps109
  go_wp2
  go_ret2
  exact ⟨rfl, below1 w _⟩
end
end Go.Proofs.YtdjikiakcfbklaaGreat

/-
  A new space; what lies below a space's blocks stays; filter.Set at nobody's space; the rules of a closed law.
-/
namespace Go.Proofs.YtdjikiakcfbklaaGreat
open Go Go.RowKit Go.ChangeMaps Go.MapKept Go.Maps Go.Lib Go.Sort

def newSg : Sg := ⟨N0, [], [0, 1], []⟩
theorem newSg_ok (Mo : Nat) : SgOk Mo newSg := by
  refine ⟨N0_wf, ⟨List.nodup_nil, fun i hi => absurd hi (by simp [newSg])⟩, fun i hi => absurd hi (by simp [newSg]), fun g hg => ?_, by simp [newSg], by simp [newSg], fun p hp => absurd hp (by simp [newSg]), Nat.zero_le _, by decide⟩
  have h2 : g = 0 ∨ g = 1 := by simpa [newSg] using hg
  rcases h2 with rfl | rfl
  · exact ⟨by decide, .inl (by omega), Hangs.const false 0 208⟩
  · exact ⟨by decide, .inl (by omega), Hangs.const true 0 208⟩
section
variable {w w' : World} {B S km : Nat} {A : Blks} {Mo : Nat} {σ : Sg}
theorem SpAt.newOk (h : SpAt w B S km A Mo N0 [] [0, 1] []) : SpOk w B S km A Mo newSg := ⟨h, newSg_ok Mo⟩
theorem SpOk.foreign_low (h : SpOk w B S km A Mo σ) {k : Nat} (hk : k < B) : Foreign A w k := by
  obtain ⟨nv, ha⟩ := h.sp.ar
  have hb : B ≤ A.a := ha.base A.a (by simp [Blks.list])
  have hl := lt_of_block ha.cells
  refine ⟨by omega, fun hm => by have := ha.base k hm; omega, fun v hv e => ?_⟩
  rw [ha.cell2] at hv
  injection hv with hv
  subst hv
  have := (ha.row.lt k e).1
  omega
theorem SpOk.low (h : SpOk w B S km A Mo σ) (hB : B ≤ km) (hk : KeptS A km w w') : Below B w w' :=
  ⟨hk.os, hk.tape, hk.output, hk.size, fun k hlt => (hk.same k (h.foreign_low hlt) (by omega)).1⟩
end
section
set_option maxRecDepth 100000
set_option maxHeartbeats 2000000
theorem set_nil (w : World) (fv : Value) (nm : ByteArray) : Calls Tryz.prog 70 #[.pointer none, .agg #[.string nm, fv]] w fun e w' => e = .returned (.tuple #[.int .i64 0, .int .i64 2]) ∧ Below w.heap.size w w' := by
  have HRU := Lib.hid (rules_nil (w.alloc (.cells #[.string nm, fv] 77)) fv nm)
  have hbw := below1 w (.cells #[.string nm, fv] 77)
  have hbk := blk1 w (.cells #[.string nm, fv] 77)
  have b0 : (w.alloc (.cells #[.string nm, fv] 77)).cell? ⟨w.heap.size, 0, none⟩ = some (.string nm) := cell_of_row _ _ 0 _ _ (0, 0) hbk
  have b1 : (w.alloc (.cells #[.string nm, fv] 77)).cell? ⟨w.heap.size, 1, none⟩ = some fv := cell_of_row _ _ 1 _ _ (0, 0) hbk
  have HB := Lib.hid hbw
  clear hbw hbk
  go_enter Tryz.func70, Tryz.ntmps70
  go_upto_region 1 with fail
  generalize w.alloc (.cells #[.string nm, fv] 77) = w0 at *
  go_wp2_with fail
  refine HRU.out.mono ?_
  rintro e w2 ⟨rfl, hb2⟩
  have HB2 := Lib.hid (HB.out.trans (hb2.mono HB.out.size))
  clear hb2
  go_wp2
  go_ret2
  exact ⟨rfl, HB2.out⟩
end
/-- The rule that permits all. -/
def openR : RuleV := wideR true (-1) (by omega)
theorem openR_F : ruleF openR = fun _ => true := by
  unfold openR
  rw [wide_ruleF]
  rfl
theorem openR_left0 : leftF [openR] 0 = fun _ => true := rfl
theorem openR_dec : decF [openR] 0 = fun _ => true := by
  have h : [openR][0]? = some openR := rfl
  rw [decF_eq h, openR_left0, openR_F]
  rfl
theorem openR_left1 : leftF [openR] 1 = fun _ => false := by
  have h : [openR][0]? = some openR := rfl
  rw [leftF_succ h, openR_left0, openR_F]
  rfl
theorem openR_set1 : setF [openR] 1 = fun _ => true := by
  show (if permitAt [openR] 0 then fun s => setF [openR] 0 s || decF [openR] 0 s else setF [openR] 0) = _
  rw [if_pos (show permitAt [openR] 0 = true from rfl), openR_dec]
  rfl
theorem openR_filt : FiltW [openR] 576 := by
  intro k r hr
  obtain rfl : k = 0 := by
    have := (List.getElem?_eq_some_iff.1 hr).1
    simp at this
    omega
  obtain rfl : r = openR := by injection hr with hr; exact hr.symm
  refine ⟨wide_wid true (-1) (by omega), ?_, ?_⟩
  · rw [openR_dec]; exact (Wid.const true).mono (by omega)
  · rw [openR_left1]; exact (Wid.const false).mono (by omega)
theorem openR_sets : ∀ k, k ≤ [openR].length → Wid (setF [openR] k) 576 := by
  intro k hk
  have h1 : [openR].length = 1 := rfl
  obtain rfl | rfl : k = 0 ∨ k = 1 := by omega
  · exact (Wid.const false).mono (by omega)
  · rw [openR_set1]; exact (Wid.const true).mono (by omega)
theorem openR_may : mayB openR = true := wide_may true (-1) (by omega)
theorem openR_filtE (n : Nat) (hn : n ≤ 256) : filtE (List.replicate n openR) = 0 := by
  refine filtE_3 (by simp; omega) ?_
  rw [List.any_eq_false]
  intro x hx
  rw [(List.mem_replicate.1 hx).2, openR_may]
  simp
theorem openR_filtE' (n : Nat) (hn : 256 < n) : filtE (List.replicate n openR) = 121 := filtE_1 (by simp; omega)
end Go.Proofs.YtdjikiakcfbklaaGreat

/-
  A region that draws its order and whose last operation waits for all the others: the class of worlds need not bear that one. No program in sight.
-/
namespace Go.Proofs.YtdjikiakcfbklaaGreat
open Go Go.RowKit Go.Sort

section
variable {P : Program} {ops : Array Oper} {md : Region.Mode} {S : World → Prop} {Q : Exit → Act → World → Prop} {z : Nat}
/-- All orders; the class holds behind each operation but z. -/
def allZ (P : Program) (md : Region.Mode) (ops : Array Oper) (Q : Exit → Act → World → Prop) (z : Nat) (S : World → Prop) : Nat → Array Bool → Act → World → Prop
  | 0, ls, a, w => Region.ready md ops ls = [] ∧ Q .normal a w
  | n + 1, ls, a, w => (Region.ready md ops ls = [] → Q .normal a w) ∧ ∀ i ∈ Region.ready md ops ls, wpOp P ops Q i (fun a' w' => (i ≠ z → S w') ∧ allZ P md ops Q z S n (ls.setIfInBounds i true) a' w') a w
theorem allZ_any : ∀ (n : Nat) (ls : Array Bool) (a : Act) (w : World), allZ P md ops Q z S n ls a w → wpAny P md ops Q n ls a w
  | 0, _, _, _, h => h
  | n + 1, _, _, _, h => ⟨h.1, fun i hi => wpOp_mono (fun _ _ hh => allZ_any n _ _ _ hh.2) (h.2 i hi)⟩
theorem allZ_class {S S' : World → Prop} (h : ∀ v, S' v → S v) : ∀ (n : Nat) (ls : Array Bool) (a : Act) (w : World), allZ P md ops Q z S' n ls a w → allZ P md ops Q z S n ls a w
  | 0, _, _, _, hh => hh
  | n + 1, _, _, _, hh => ⟨hh.1, fun i hi => wpOp_mono (fun _ _ hk => ⟨fun hz => h _ (hk.1 hz), allZ_class h n _ _ _ hk.2⟩) (hh.2 i hi)⟩
/-- z waits for all the others. -/
def lastZ (md : Region.Mode) (ops : Array Oper) (z : Nat) : Bool := (List.range ops.size).all fun k => k == z || (match ops[z]? with | some o => o.after.any fun e => Region.binds md e && e.on == k | none => false)
theorem lastZ_alone (h : lastZ md ops z = true) {ls : Array Bool} {i : Nat} (hz : z ∈ Region.ready md ops ls) (hi : i ∈ Region.ready md ops ls) : i = z := by
  obtain ⟨h0, oi, hoi, _⟩ := mem_ready.1 hi
  obtain ⟨_, oz, hoz, hall⟩ := mem_ready.1 hz
  have hlt : i < ops.size := (Array.getElem?_eq_some_iff.1 hoi).1
  have h1 := List.all_eq_true.1 h i (List.mem_range.2 hlt)
  simp only [hoz, Bool.or_eq_true, beq_iff_eq] at h1
  rcases h1 with h1 | h1
  · exact h1
  · obtain ⟨k, hk, h2⟩ := Array.any_eq_true.1 h1
    simp only [Bool.and_eq_true, beq_iff_eq] at h2
    have h3 := hall _ (Array.getElem_mem hk) h2.1
    rw [h2.2] at h3
    rcases Nat.lt_or_ge i ls.size with h' | h'
    · simp [h'] at h0 h3
      rw [h0] at h3
      cases h3
    · simp [Array.getElem?_eq_none h'] at h3
/-- A plain operation may be taken first. -/
theorem allZ_take (hz : lastZ md ops z = true) {i : Nat} {oi : Oper} {v : Value} (hi : ops[i]? = some oi) (hiz : i ≠ z) (hs : Region.noSelect ops = true) (hQ : ∀ c a w, Q (.panic c) (a.put oi.dst v) w → Q (.panic c) a w) :
    ∀ (n : Nat) (ls : Array Bool) (a : Act) (w : World),
      (∀ j oj, ops[j]? = some oj → j ≠ i → ls.getD j true = false → (∀ e ∈ oj.after, Region.binds md e = true → e.on ≠ i) → oi.apart ops oj = true) →
      i ∈ Region.ready md ops ls → YieldsIf P ops S oi v a → S w → allZ P md ops Q z S n (ls.setIfInBounds i true) (a.put oi.dst v) w → allZ P md ops Q z S (n + 1) ls a w := by
  have hsel := Region.noSelect_spec hs
  intro n
  induction n with
  | zero =>
    intro ls a w _ hr hy hS H
    refine ⟨fun h => (by rw [h] at hr; cases hr), fun j hj => ?_⟩
    by_cases hji : j = i
    · subst hji
      exact hy.wpOp hi hS ⟨fun _ => hS, H⟩
    · have h1 := ready_mono hj hji
      rw [H.1] at h1
      cases h1
  | succ n ih =>
    intro ls a w hfr hr hy hS H
    refine ⟨fun h => (by rw [h] at hr; cases hr), fun j hj => ?_⟩
    by_cases hji : j = i
    · subst hji
      exact hy.wpOp hi hS ⟨fun _ => hS, H⟩
    · have hjz : j ≠ z := fun e => hiz (lastZ_alone hz (by rw [← e]; exact hj) hr)
      have h1 := H.2 j (ready_mono hj hji)
      obtain ⟨hju, oj, hoj, hall⟩ := mem_ready.1 hj
      have hno : ∀ e ∈ oj.after, Region.binds md e = true → e.on ≠ i := fun e he hb heq => by
        have g1 := hall e he hb
        have g0 := (mem_ready.1 hr).1
        rw [heq] at g1
        rcases Nat.lt_or_ge i ls.size with h' | h'
        · simp [h'] at g0 g1
          rw [g0] at g1
          cases g1
        · simp [Array.getElem?_eq_none h'] at g1
      have h2 := wpOp_putIf hoj (hfr j oj hoj hji hju hno) (fun cs b => hsel i oi cs b hi) (fun cs b => hsel j oj cs b hoj) hQ hy h1
      refine wpOp_mono (fun a' w' h3 => ⟨fun _ => h3.2.1 hjz, ih (ls.setIfInBounds j true) a' w' (fun k ok hk hki hun hn => hfr k ok hk hki ?_ hn) (ready_mono hr (Ne.symm hji)) h3.1 (h3.2.1 hjz) ?_⟩) h2
      · by_cases hjk : j = k
        · subst hjk; exact hju
        · rw [getD_set_ne true hjk] at hun; exact hun
      · rw [Array.setIfInBounds_comm _ _ hji]
        exact h3.2.2
def mixBz (md : Region.Mode) (ops : Array Oper) (z : Nat) : List (Nat × Bool) → Array Bool → Bool
  | [], ls => decide (Region.ready md ops ls = [z]) && (Region.ready md ops (ls.setIfInBounds z true)).isEmpty
  | (k, false) :: m, ls => decide (k ≠ z) && (Region.ready md ops ls).contains k && Region.free md ops ls k && (match ops[k]? with | some o => plainB o.op | none => false) && mixBz md ops z m (ls.setIfInBounds k true)
  | (k, true) :: m, ls => decide (k ≠ z) && decide (Region.ready md ops ls = [k]) && mixBz md ops z m (ls.setIfInBounds k true)
/-- The walk; z comes last. -/
def mixWz (P : Program) (ops : Array Oper) (Q : Exit → Act → World → Prop) (z : Nat) : List (Nat × Bool) → (World → Prop) → Act → World → Prop
  | [], _, a, w => ∃ o, ops[z]? = some o ∧ Region.wanted o (yielded ops a.tmps) = true ∧ o.wp P a w (fun a' w' => Q .normal a' w') Q
  | (k, false) :: m, S, a, w => ∃ o, ops[k]? = some o ∧ if Region.wanted o (yielded ops a.tmps) then o.quiet P a S (fun a' => mixWz P ops Q z m S a' w) else mixWz P ops Q z m S (a.put o.dst undef) w
  | (k, true) :: m, S, a, w => ∃ o, ops[k]? = some o ∧ Region.wanted o (yielded ops a.tmps) = true ∧ o.wp P a w (fun a' w' => ∃ S' : World → Prop, S' w' ∧ (∀ v, S' v → S v) ∧ mixWz P ops Q z m S' a' w') Q
theorem mixZ_sound (hz : lastZ md ops z = true) (hs : Region.noSelect ops = true) (hQ : ∀ d v c a w, Q (.panic c) (Act.put a d v) w → Q (.panic c) a w) :
    ∀ (m : List (Nat × Bool)) (S : World → Prop) (ls : Array Bool) (a : Act) (w : World), mixBz md ops z m ls = true → S w → mixWz P ops Q z m S a w → allZ P md ops Q z S (m.length + 1) ls a w := by
  intro m
  induction m with
  | nil =>
    intro S ls a w hB hS h
    obtain ⟨o, h0, hw, h⟩ := h
    simp only [mixBz, Bool.and_eq_true, decide_eq_true_eq] at hB
    refine ⟨fun h1 => (by rw [hB.1] at h1; cases h1), fun i hi => ?_⟩
    rw [hB.1] at hi
    obtain rfl : i = z := by simpa using hi
    unfold wpOp
    simp only [h0]
    rw [if_pos hw]
    exact .inl (Oper.wp_mono (fun a' w' hh => ⟨fun e => absurd rfl e, by simpa using hB.2, hh⟩) h)
  | cons b m ih =>
    intro S ls a w hB hS h
    obtain ⟨k, b⟩ := b
    cases b with
    | false =>
      simp only [mixWz] at h
      obtain ⟨o, h0, h⟩ := h
      simp only [mixBz, Bool.and_eq_true, h0, decide_eq_true_eq] at hB
      obtain ⟨⟨⟨⟨hk, hr⟩, hf⟩, hp⟩, hB'⟩ := hB
      by_cases hw : Region.wanted o (yielded ops a.tmps) = true
      · rw [if_pos hw] at h
        obtain ⟨v, hv, hK⟩ := yields_quiet hp h
        exact allZ_take hz h0 hk hs (fun c a w => hQ o.dst v c a w) _ ls a w (Region.free_spec h0 hf) (by simpa using hr) (.inl ⟨hw, hv⟩) hS (ih S _ _ w hB' hS hK)
      · rw [if_neg hw] at h
        exact allZ_take hz h0 hk hs (fun c a w => hQ o.dst undef c a w) _ ls a w (Region.free_spec h0 hf) (by simpa using hr) (.inr ⟨by simpa using hw, rfl⟩) hS (ih S _ _ w hB' hS h)
    | true =>
      simp only [mixWz] at h
      obtain ⟨o, h0, hw, h⟩ := h
      simp only [mixBz, Bool.and_eq_true, decide_eq_true_eq] at hB
      obtain ⟨⟨hk, hr⟩, hB'⟩ := hB
      refine ⟨fun h1 => (by rw [hr] at h1; cases h1), fun i hi => ?_⟩
      rw [hr] at hi
      obtain rfl : i = k := by simpa using hi
      unfold wpOp
      simp only [h0]
      rw [if_pos hw]
      refine .inl (Oper.wp_mono (fun a' w' hh => ?_) h)
      obtain ⟨S', h1, h2, h3⟩ := hh
      exact ⟨fun _ => h2 _ h1, allZ_class h2 _ _ _ _ (ih S' _ a' w' hB' h1 h3)⟩
def mixOkZ (l : List Oper) (z : Nat) (m : List (Nat × Bool)) : Bool := Region.noSelect l.toArray && decide (m.length + 1 = l.length) && lastZ .any l.toArray z && mixBz .any l.toArray z m (Array.replicate l.length false)
theorem wp_region_mixZ {id : Nat} {a : Act} {w : World} {l : List Oper} (S : World → Prop) (z : Nat) (m : List (Nat × Bool)) (hm : P.follows .mixedOrders = true) (hB : mixOkZ l z m = true) (hS : S { w with drawn := w.drawn + 1 })
    (h : mixWz P l.toArray (NoPanic Q) z m (fun w' => ∃ p : InW S, w' = p.w) a { w with drawn := w.drawn + 1 }) : (Code.region id l.toArray true).wp P Q a w := by
  simp only [mixOkZ, Bool.and_eq_true, decide_eq_true_eq] at hB
  obtain ⟨⟨⟨hs, hlen⟩, hl⟩, hmix⟩ := hB
  refine wp_region_noPanic (wp_region_any hm ?_)
  have H := mixZ_sound (md := .any) hl hs (fun d v c a w hh => hh) m _ (Array.replicate l.length false) a { w with drawn := w.drawn + 1 } hmix (inS hS) h
  rw [hlen] at H
  exact allZ_any _ _ _ _ (by simpa using H)
theorem mixZ_seg {m : List (Nat × Bool)} : ∀ (ks : List Nat) (seg : List Oper) (a : Act) (w : World), ks.map (fun k => ops[k]?) = seg.map some → wpQuiet P ops S (fun a' => mixWz P ops Q z m S a' w) seg a → mixWz P ops Q z (ks.map (fun k => (k, false)) ++ m) S a w
  | [], [], _, _, _, h => h
  | [], _ :: _, _, _, hk, _ => by cases hk
  | _ :: _, [], _, _, hk, _ => by cases hk
  | k :: ks, o :: seg, a, w, hk, h => by
    simp only [List.map_cons] at hk
    injection hk with hk1 hk2
    have h' : (if Region.wanted o (yielded ops a.tmps) then o.quiet P a S (wpQuiet P ops S (fun a' => mixWz P ops Q z m S a' w) seg) else wpQuiet P ops S (fun a' => mixWz P ops Q z m S a' w) seg (a.put o.dst undef)) := h
    show ∃ o, ops[k]? = some o ∧ (if Region.wanted o (yielded ops a.tmps) then o.quiet P a S (fun a' => mixWz P ops Q z (ks.map (fun k => (k, false)) ++ m) S a' w) else mixWz P ops Q z (ks.map (fun k => (k, false)) ++ m) S (a.put o.dst undef) w)
    refine ⟨o, hk1, ?_⟩
    split
    · rename_i hw
      rw [if_pos hw] at h'
      exact Oper.quiet_mono (fun a' hh => mixZ_seg ks seg a' w hk2 hh) h'
    · rename_i hw
      rw [if_neg hw] at h'
      exact mixZ_seg ks seg _ w hk2 h'
theorem mixZ_take {m m' : List (Nat × Bool)} {a : Act} {w : World} (ks : List Nat) (seg : List Oper) (hm : m = ks.map (fun k => (k, false)) ++ m') (hs : ks.map (fun k => ops[k]?) = seg.map some) (h : wpQuiet P ops S (fun a' => mixWz P ops Q z m' S a' w) seg a) : mixWz P ops Q z m S a w := by
  rw [hm]
  exact mixZ_seg ks seg a w hs h
theorem mixZ_bar {m : List (Nat × Bool)} {k : Nat} {o : Oper} {a : Act} {S : World → Prop} {w : World} (ho : ops[k]? = some o) (hw : Region.wanted o (yielded ops a.tmps) = true)
    (h : o.wp P a w (fun a' w' => ∃ S' : World → Prop, S' w' ∧ (∀ v, S' v → S v) ∧ mixWz P ops Q z m (fun w' => ∃ p : InW S', w' = p.w) a' w') Q) : mixWz P ops Q z ((k, true) :: m) (fun w' => ∃ p : InW S, w' = p.w) a w := by
  simp only [mixWz]
  refine ⟨o, ho, hw, ?_⟩
  exact Oper.wp_mono (fun a' w' hh => by obtain ⟨S', h1, h2, h3⟩ := hh; exact ⟨_, inS h1, inS_sub h2, h3⟩) h
theorem mixZ_end {o : Oper} {a : Act} {w : World} (ho : ops[z]? = some o) (hw : Region.wanted o (yielded ops a.tmps) = true) (h : o.wp P a w (fun a' w' => Q .normal a' w') (NoPanic Q)) : mixWz P ops (NoPanic Q) z [] S a w :=
  ⟨o, ho, hw, Oper.wp_mono (fun _ _ hh => hh) h⟩
end
end Go.Proofs.YtdjikiakcfbklaaGreat

/-
  A rewrite's relation: the builder's take, the boxes that the walk keeps.
-/
namespace Go.Proofs.YtdjikiakcfbklaaGreat
open Go Go.RowKit Go.ChangeMaps Go.MapKept Go.Maps Go.Lib Go.Sort

section
variable {w w' : World} {B S km : Nat} {A : Blks} {Mo : Nat} {σ τ : Sg}
theorem SpRes.room {F : Fun} {k m : Nat} {e : Ending} (h : SpRes w B S km A Mo σ F k m e w') (hr : σ.H.length + m ≤ Mo) :
    ∃ (r : Nat) (τ : Sg), e = .returned (.tuple #[.int .i64 (r : Nat), .int .i64 0]) ∧ SpOk w' B S km A Mo τ ∧ To k m σ τ ∧ Den τ r F := by
  rcases h.2 with ⟨_, h2, _⟩ | ⟨r, τ, h1, h2⟩
  · omega
  · exact ⟨r, τ, h1, h2⟩
theorem field_any (b : Bool) (w : World) : Calls Tryz.prog 71 #[.bool b] w fun e w' => e = .returned (.int .i64 (if b then 1 else 0)) ∧ w' = w := by
  cases b
  all_goals
    go_enter Tryz.func71, Tryz.ntmps71
    go_wp2
    go_ret
    exact ⟨rfl, rfl⟩
theorem take_ok (bb : Nat) (n : Int) (w : World) (hk : w.heap[bb]? = some (.cells #[.int .i64 0] 113 (0, 0))) :
    Calls Tryz.prog 69 #[.pointer (some ⟨bb, 0, none⟩), .int .i64 n, .int .i64 0] w fun e w' => e = .returned (.int .i64 n) ∧ Below w.heap.size w w' := by
  have c0 := cell0 hk
  have f0 := frozen_of_row _ _ 0 _ _ hk
  have hb : Below w.heap.size w (w.setCell ⟨bb, 0, none⟩ (.int .i64 0)) := ⟨rfl, rfl, rfl, by simp [World.setCell], fun k _ => by
    by_cases hkb : k = bb
    · subst hkb
      exact (heap_setCell_same _ _ 0 _ _ (.int .i64 0) hk).trans hk.symm
    · exact Below.heap_setCell w ⟨bb, 0, none⟩ _ k hkb⟩
  have HB := Lib.hid hb
  clear hb hk
  go_enter Tryz.func69, Tryz.ntmps69
  go_wp2
  go_ret
  exact ⟨rfl, HB.out⟩
/-- The boxes of a relation's walk. -/
structure Bxs where
  b : Nat
  s : Nat
  l : Nat
  d : Nat
  L : Nat
  o : Nat
def Bxs.list (P : Bxs) : List Nat := [P.b, P.s, P.l, P.d, P.L, P.o]
structure RelBx (w0 W : World) (B S km : Nat) (A : Blks) (Mo : Nat) (τ : Sg) (P : Bxs) (dest : Bool) (l : List RewV) (vl : Value) (Fs : List FiltV) (v : Value) (ql qo : Nat) : Prop where
  sp : SpOk W B S km A Mo τ
  bkm : B ≤ km
  xb : W.heap[P.b]? = some (.cells #[.int .i64 0] 113 (0, 0))
  xs : W.heap[P.s]? = some (.cells #[.pointer (some ⟨S, 0, none⟩)] 41 (0, 0))
  xl : W.heap[P.l]? = some (.cells #[.int .i64 ql] 3 (0, 0))
  xd : W.heap[P.d]? = some (.cells #[.bool dest] 4 (0, 0))
  xL : W.heap[P.L]? = some (.cells #[vl] 22 (0, 0))
  xo : W.heap[P.o]? = some (.cells #[.int .i64 qo] 3 (0, 0))
  nd : P.list.Nodup
  fo : ∀ x ∈ P.list, Foreign A W x ∧ x ≠ km ∧ x ≠ S ∧ w0.heap.size ≤ x ∧ B ≤ x
  row : Rd W B 3 vl l.length (wcells l)
  fs : FsAt W B v Fs
  kp : KeptS A km w0 W
variable {w0 W W' : World} {P : Bxs} {dest : Bool} {l : List RewV} {vl : Value} {Fs : List FiltV} {v : Value} {ql qo : Nat}
theorem RelBx.kept (h : RelBx w0 W B S km A Mo σ P dest l vl Fs v ql qo) (hk : KeptS A km W W') (hs : SpOk W' B S km A Mo τ) : RelBx w0 W' B S km A Mo τ P dest l vl Fs v ql qo := by
  have hl := h.sp.low h.bkm hk
  have hf : ∀ x ∈ P.list, W'.heap[x]? = W.heap[x]? ∧ Foreign A W' x := fun x hx => hk.same x (h.fo x hx).1 (h.fo x hx).2.1
  exact ⟨hs, h.bkm, (hf _ (by simp [Bxs.list])).1.trans h.xb, (hf _ (by simp [Bxs.list])).1.trans h.xs, (hf _ (by simp [Bxs.list])).1.trans h.xl, (hf _ (by simp [Bxs.list])).1.trans h.xd, (hf _ (by simp [Bxs.list])).1.trans h.xL, (hf _ (by simp [Bxs.list])).1.trans h.xo, h.nd, fun x hx => ⟨(hf x hx).2, (h.fo x hx).2⟩, h.row.below hl, h.fs.below hl, h.kp.trans hk⟩
theorem RelBx.below (h : RelBx w0 W B S km A Mo σ P dest l vl Fs v ql qo) (hb : Below W.heap.size W W') : RelBx w0 W' B S km A Mo σ P dest l vl Fs v ql qo := h.kept (h.sp.kept hb) (h.sp.below hb)
theorem RelBx.write (h : RelBx w0 W B S km A Mo σ P dest l vl Fs v ql qo) {x : Nat} (hx : x ∈ P.list) (u : Value) : SpOk (W.setCell ⟨x, 0, none⟩ u) B S km A Mo σ ∧ (∀ y ∈ P.list, Foreign A (W.setCell ⟨x, 0, none⟩ u) y) ∧ KeptS A km w0 (W.setCell ⟨x, 0, none⟩ u) ∧ Below B W (W.setCell ⟨x, 0, none⟩ u) := by
  have hg : W.grownBy (W.setCell ⟨x, 0, none⟩ u) (some x) := only_setCell (World.grownBy.refl W (some x)) (.inl rfl) _
  have hf := h.fo x hx
  obtain ⟨s1, s2, s3⟩ := h.sp.others hg (fun g hg => by injection hg with hg; subst hg; exact ⟨hf.1, hf.2.1, hf.2.2.1⟩)
  exact ⟨s1, fun y hy => s2 y (h.fo y hy).1, h.kp.others hg (fun g hg => by injection hg with hg; have := hf.2.2.2.1; omega) s2, (Below.refl B W).setCell (p := ⟨x, 0, none⟩) hf.2.2.2.2 u⟩
theorem RelBx.setL (h : RelBx w0 W B S km A Mo σ P dest l vl Fs v ql qo) (n : Nat) : RelBx w0 (W.setCell ⟨P.l, 0, none⟩ (.int .i64 n)) B S km A Mo σ P dest l vl Fs v n qo := by
  obtain ⟨s1, s2, s3, s4⟩ := h.write (x := P.l) (by simp [Bxs.list]) (.int .i64 n)
  have hn := h.nd
  simp only [Bxs.list, List.nodup_cons, List.mem_cons, List.not_mem_nil, or_false, not_or] at hn
  have ho : ∀ y, y ≠ P.l → (W.setCell ⟨P.l, 0, none⟩ (.int .i64 n)).heap[y]? = W.heap[y]? := fun y hy => Below.heap_setCell W ⟨P.l, 0, none⟩ _ y hy
  exact ⟨s1, h.bkm, (ho _ (by omega)).trans h.xb, (ho _ (by omega)).trans h.xs, heap_setCell_same _ _ 0 _ _ (.int .i64 n) h.xl, (ho _ (by omega)).trans h.xd, (ho _ (by omega)).trans h.xL, (ho _ (by omega)).trans h.xo, h.nd, fun x hx => ⟨s2 x hx, (h.fo x hx).2⟩, h.row.below s4, h.fs.below s4, s3⟩
theorem RelBx.setO (h : RelBx w0 W B S km A Mo σ P dest l vl Fs v ql qo) (n : Nat) : RelBx w0 (W.setCell ⟨P.o, 0, none⟩ (.int .i64 n)) B S km A Mo σ P dest l vl Fs v ql n := by
  obtain ⟨s1, s2, s3, s4⟩ := h.write (x := P.o) (by simp [Bxs.list]) (.int .i64 n)
  have hn := h.nd
  simp only [Bxs.list, List.nodup_cons, List.mem_cons, List.not_mem_nil, or_false, not_or] at hn
  have ho : ∀ y, y ≠ P.o → (W.setCell ⟨P.o, 0, none⟩ (.int .i64 n)).heap[y]? = W.heap[y]? := fun y hy => Below.heap_setCell W ⟨P.o, 0, none⟩ _ y hy
  exact ⟨s1, h.bkm, (ho _ (by omega)).trans h.xb, (ho _ (by omega)).trans h.xs, (ho _ (by omega)).trans h.xl, (ho _ (by omega)).trans h.xd, (ho _ (by omega)).trans h.xL, heap_setCell_same _ _ 0 _ _ (.int .i64 n) h.xo, h.nd, fun x hx => ⟨s2 x hx, (h.fo x hx).2⟩, h.row.below s4, h.fs.below s4, s3⟩
/-- What a rewrite's filter permits; what it puts; what is left; what leads where. -/
def rwSet (Fs : List FiltV) (x : RewV) : Fun := setF (namL Fs x.nm) (namL Fs x.nm).length
def rwPut (dest : Bool) (x : RewV) : Fun := putF (if dest then 32 else 0) 32 x.too.toNat
def leftW (dest : Bool) (l : List RewV) (Fs : List FiltV) : Nat → Fun
  | 0 => fun _ => true
  | k + 1 => match l[k]? with
    | some x => if x.dest = dest then fun s => leftW dest l Fs k s && !rwSet Fs x s else leftW dest l Fs k
    | none => leftW dest l Fs k
def outW (dest : Bool) (l : List RewV) (Fs : List FiltV) : Nat → Fun
  | 0 => fun _ => false
  | k + 1 => match l[k]? with
    | some x => if x.dest = dest then fun s => outW dest l Fs k s || (rwPut dest x s && (leftW dest l Fs k s && rwSet Fs x s)) else outW dest l Fs k
    | none => outW dest l Fs k
theorem rwSet_set (Fs : List FiltV) (x : RewV) : SetF (rwSet Fs x) := setF_set _ _
theorem leftW_set (dest : Bool) (l : List RewV) (Fs : List FiltV) : ∀ k, SetF (leftW dest l Fs k)
  | 0 => SetF.const true
  | k + 1 => by
    unfold leftW
    split
    · split
      · exact (leftW_set dest l Fs k).op2 (fun x y => x && !y) (rwSet_set Fs _)
      · exact leftW_set dest l Fs k
    · exact leftW_set dest l Fs k
theorem leftW_step {k : Nat} {x : RewV} (hx : l[k]? = some x) (hd : x.dest = dest) : leftW dest l Fs (k + 1) = fun s => leftW dest l Fs k s && !rwSet Fs x s := by
  show (match l[k]? with | some x => if x.dest = dest then fun s => leftW dest l Fs k s && !rwSet Fs x s else leftW dest l Fs k | none => leftW dest l Fs k) = _
  rw [hx]
  exact if_pos hd
theorem leftW_skip {k : Nat} {x : RewV} (hx : l[k]? = some x) (hd : x.dest ≠ dest) : leftW dest l Fs (k + 1) = leftW dest l Fs k := by
  show (match l[k]? with | some x => if x.dest = dest then fun s => leftW dest l Fs k s && !rwSet Fs x s else leftW dest l Fs k | none => leftW dest l Fs k) = _
  rw [hx]
  exact if_neg hd
theorem outW_step {k : Nat} {x : RewV} (hx : l[k]? = some x) (hd : x.dest = dest) : outW dest l Fs (k + 1) = fun s => outW dest l Fs k s || (rwPut dest x s && (leftW dest l Fs k s && rwSet Fs x s)) := by
  show (match l[k]? with | some x => if x.dest = dest then fun s => outW dest l Fs k s || (rwPut dest x s && (leftW dest l Fs k s && rwSet Fs x s)) else outW dest l Fs k | none => outW dest l Fs k) = _
  rw [hx]
  exact if_pos hd
theorem outW_skip {k : Nat} {x : RewV} (hx : l[k]? = some x) (hd : x.dest ≠ dest) : outW dest l Fs (k + 1) = outW dest l Fs k := by
  show (match l[k]? with | some x => if x.dest = dest then fun s => outW dest l Fs k s || (rwPut dest x s && (leftW dest l Fs k s && rwSet Fs x s)) else outW dest l Fs k | none => outW dest l Fs k) = _
  rw [hx]
  exact if_neg hd
theorem rwPut_any (h : SpOk w B S km A Mo σ) (dest : Bool) (x : RewV) (hl : σ.N.length + 2280 ≤ 2147483647) :
    Calls Tryz.prog 29 #[.pointer (some ⟨S, 0, none⟩), .int .i64 (if dest then 1 else 0), .int .u32 x.too] w (SpRes w B S km A Mo σ (rwPut dest x) 2280 2280) := by
  have hv : ((x.too.toNat : Nat) : Int) = x.too := by have := x.hto; omega
  have hb : x.too.toNat < 4294967296 := by have := x.hto; omega
  cases dest with
  | false =>
    have h1 := put0_yes h x.too.toNat hb hl
    rw [hv] at h1
    exact h1
  | true =>
    have h1 := put1_yes h x.too.toNat hb hl
    rw [hv] at h1
    exact h1
end
end Go.Proofs.YtdjikiakcfbklaaGreat

/-
  A rewrite's relation: what is done at each rewrite.
-/
namespace Go.Proofs.YtdjikiakcfbklaaGreat
open Go Go.RowKit Go.ChangeMaps Go.MapKept Go.Maps Go.Lib Go.Sort

/-- How much a rewrite's step may take. -/
structure StepW (dest : Bool) (l : List RewV) (Fs : List FiltV) (K M k : Nat) (x : RewV) : Prop where
  ok : filtE (namL Fs x.nm) = 0
  fw : FiltW (namL Fs x.nm) K
  sw : ∀ j, j ≤ (namL Fs x.nm).length → Wid (setF (namL Fs x.nm) j) K
  len : (namL Fs x.nm).length ≤ M
  own : Wid (fun s => leftW dest l Fs k s && rwSet Fs x s) K
  left : Wid (fun s => leftW dest l Fs k s && !rwSet Fs x s) K
  wh : Wid (fun s => rwPut dest x s && (leftW dest l Fs k s && rwSet Fs x s)) K
  out : Wid (fun s => outW dest l Fs k s || (rwPut dest x s && (leftW dest l Fs k s && rwSet Fs x s))) K
section
variable {B S km : Nat} {A : Blks} {Mo : Nat} {τ : Sg} {w0 W : World} {P : Bxs} {dest : Bool} {l : List RewV} {vl : Value} {Fs : List FiltV} {v : Value} {ql qo : Nat}
set_option maxRecDepth 100000
set_option maxHeartbeats 8000000
theorem relStep (h : RelBx w0 W B S km A Mo τ P dest l vl Fs v ql qo) {k : Nat} (hdl : Den τ ql (leftW dest l Fs k)) (hdo : Den τ qo (outW dest l Fs k)) {x : RewV} (hx : l[k]? = some x) (hd : x.dest = dest) (nm : ByteArray) (vL : Value) (hr : RdF A km W 10 vL (namL Fs x.nm).length (rcells (namL Fs x.nm))) {K M : Nat} (hw : StepW dest l Fs K M k x)
    (hroom : τ.H.length + (M * (6080 + 8 * K) + 2280 + 4 * K) ≤ Mo) (hnl : τ.N.length + (M * (6080 + 8 * K) + 2280 + 4 * K) ≤ 2147483647) :
    Calls Tryz.prog 68 #[.int .i64 k, .agg #[.string nm, vL], .pointer (some ⟨P.b, 0, none⟩), .pointer (some ⟨P.s, 0, none⟩), .pointer (some ⟨P.l, 0, none⟩), .pointer (some ⟨P.d, 0, none⟩), .pointer (some ⟨P.L, 0, none⟩), .pointer (some ⟨P.o, 0, none⟩)] W
      fun e W' => e = .returned (.bool true) ∧ ∃ (ql' qo' : Nat) (τ' : Sg), RelBx w0 W' B S km A Mo τ' P dest l vl Fs v ql' qo' ∧ To (M * (6080 + 8 * K) + 2280 + 4 * K) (M * (6080 + 8 * K) + 2280 + 4 * K) τ τ' ∧ Den τ' ql' (leftW dest l Fs (k + 1)) ∧ Den τ' qo' (outW dest l Fs (k + 1)) := by
  have hmul : (namL Fs x.nm).length * (6080 + 8 * K) ≤ M * (6080 + 8 * K) := Nat.mul_le_mul_right _ hw.len
  obtain ⟨PL, cL, rfl, _⟩ := hr.rd.form
  have hb1 := below1 W (.cells #[.string nm, .slice PL (namL Fs x.nm).length cL] 77)
  have hk1 := blk1 W (.cells #[.string nm, .slice PL (namL Fs x.nm).length cL] 77)
  have H1 := Lib.hid (h.below hb1)
  have HL1 := Lib.hid (hr.kept (h.sp.kept hb1))
  have f0 : (W.alloc (.cells #[.string nm, .slice PL (namL Fs x.nm).length cL] 77)).cell? ⟨W.heap.size, 0, none⟩ = some (.string nm) := cell_of_row _ _ 0 _ _ (0, 0) hk1
  have f1 : (W.alloc (.cells #[.string nm, .slice PL (namL Fs x.nm).length cL] 77)).cell? ⟨W.heap.size, 1, none⟩ = some (.slice PL (namL Fs x.nm).length cL) := cell_of_row _ _ 1 _ _ (0, 0) hk1
  have HW := Lib.hid hw
  have HDL := Lib.hid hdl
  have HDO := Lib.hid hdo
  have HX := Lib.hid (And.intro hx hd)
  have HM := Lib.hid (And.intro hmul (And.intro hroom hnl))
  have s1 := cell0 H1.out.xs
  have HSET := Lib.hid (set_yes H1.out.sp nm (namL Fs x.nm) _ HL1.out hw.ok K hw.fw hw.sw (by omega))
  clear h hr hb1 hk1 hw hdl hdo hx hd hmul hroom hnl HL1
  generalize hn : (namL Fs x.nm).length = n at *
  go_enter Tryz.func68, Tryz.ntmps68
  go_upto_region 1 with fail
  generalize W.alloc (.cells #[.string nm, .slice PL n cL] 77) = W1 at *
  go_upto_region 2 with (first
    | ((with_reducible refine HSET.out.mono ?_); rintro e W2 hr2; obtain ⟨r2, τ2, rfl, hs2, ht2, hd2⟩ := hr2.room (by have := HM.out; omega); have H2 := Lib.hid (H1.out.kept hr2.1 hs2); have HT2 := Lib.hid ht2; have HD2 := Lib.hid hd2; clear hr2 hs2 ht2 hd2)
    | ((with_reducible refine (take_ok _ _ _ H2.out.xb).mono ?_); rintro e W3 ⟨rfl, hb3⟩; have H3 := Lib.hid (H2.out.below hb3); clear hb3))
  have hd3 : Den τ2 r2 (rwSet Fs x) := by
    have := HD2.out
    rw [← hn] at this
    exact this
  have HD3 := Lib.hid hd3
  have HDL3 := Lib.hid (HDL.out.to HT2.out H1.out.sp.ok H3.out.sp.ok)
  have HDO3 := Lib.hid (HDO.out.to HT2.out H1.out.sp.ok H3.out.sp.ok)
  clear f0 f1 s1 HSET H2 hd3 HD2
  have s1 := cell0 H3.out.xs
  have l1 := cell0 H3.out.xl
  have HAND := Lib.hid (relAnd_yes H3.out.sp HDL3.out HD3.out (leftW_set dest l Fs k) (rwSet_set Fs x) (a := K) (b := K) (Grow.wid H3.out.sp.ok.wf.two HW.out.own) (by have := HM.out; have := HT2.out.nl; omega))
  go_upto_region 3 with (first
    | ((with_reducible refine HAND.out.mono ?_); rintro e W4 hr4; obtain ⟨r4, τ4, rfl, hs4, ht4, hd4⟩ := hr4.room (by have := HM.out; have := HT2.out.hl; omega); have H4 := Lib.hid (H3.out.kept hr4.1 hs4); have HT4 := Lib.hid (HT2.out.trans ht4); have HD4 := Lib.hid hd4; have HS4 := Lib.hid (HD3.out.to ht4 H3.out.sp.ok hs4.ok); have HDL4 := Lib.hid (HDL3.out.to ht4 H3.out.sp.ok hs4.ok); have HDO4 := Lib.hid (HDO3.out.to ht4 H3.out.sp.ok hs4.ok); clear hr4 hs4 ht4 hd4)
    | ((with_reducible refine (take_ok _ _ _ H4.out.xb).mono ?_); rintro e W5 ⟨rfl, hb5⟩; have H5 := Lib.hid (H4.out.below hb5); clear hb5))
  clear s1 l1 HAND H4 H3 HDL3 HDO3 HD3
  have s1 := cell0 H5.out.xs
  have l1 := cell0 H5.out.xl
  have HLES := Lib.hid (relLess_yes H5.out.sp HDL4.out HS4.out (leftW_set dest l Fs k) (rwSet_set Fs x) (a := K) (b := K) (Grow.wid H5.out.sp.ok.wf.two HW.out.left) (by have := HM.out; have := HT4.out.nl; omega))
  go_upto_region 4 with (first
    | ((with_reducible refine HLES.out.mono ?_); rintro e W6 hr6; obtain ⟨r6, τ6, rfl, hs6, ht6, hd6⟩ := hr6.room (by have := HM.out; have := HT4.out.hl; omega); have H6 := Lib.hid (H5.out.kept hr6.1 hs6); have HT6 := Lib.hid (HT4.out.trans ht6); have HD6 := Lib.hid hd6; have HO6 := Lib.hid (HD4.out.to ht6 H5.out.sp.ok hs6.ok); have HDO6 := Lib.hid (HDO4.out.to ht6 H5.out.sp.ok hs6.ok); clear hr6 hs6 ht6 hd6)
    | ((with_reducible refine (take_ok _ _ _ H6.out.xb).mono ?_); rintro e W7 ⟨rfl, hb7⟩; have H7 := Lib.hid (H6.out.below hb7); have c7 := cell0 H7.out.xl; have f7 := frozen_of_row _ _ 0 _ _ H7.out.xl; have H8 := Lib.hid (H7.out.setL r6); clear hb7))
  clear s1 l1 HLES H6 H5 HDL4 HDO4 HD4 HS4 c7 f7 H7
  generalize W7.setCell ⟨P.l, 0, none⟩ (.int .i64 r6) = W8 at *
  have hb9 : Below W8.heap.size W8 { W8 with drawn := W8.drawn + 1 } := ⟨rfl, rfl, rfl, Nat.le_refl _, fun _ _ => rfl⟩
  have H9 := Lib.hid (H8.out.below hb9)
  clear hb9
  obtain ⟨hx, hd⟩ := HX.out
  have hkl : k < l.length := (List.getElem?_eq_some_iff.1 hx).1
  have hI : (k : Int) < (l.length : Int) := by omega
  refine wp_region_mixS (KeptS A km { W8 with drawn := W8.drawn + 1 }) [(0, false), (1, false), (3, false), (4, false), (5, false), (6, false), (7, false), (2, true), (8, true), (9, false), (10, false), (11, true), (12, false)] (by kernel_rfl) (by kernel_rfl) (KeptS.refl _ _ _) ?_
  generalize { W8 with drawn := W8.drawn + 1 } = V0 at *
  obtain ⟨bL, oL, cl, hvl, _, _, hcell⟩ := H9.out.row.posAt (by omega)
  subst hvl
  have HC9 := Lib.hid (fun (p : InW (KeptS A km V0)) => H9.out.kept p.h (τ := τ6))
  have d0 : ∀ p : InW (KeptS A km V0), p.w.cell? ⟨P.s, 0, none⟩ = some (.pointer (some ⟨S, 0, none⟩)) := fun p => cell0 ((p.h.same _ (H9.out.fo P.s (by simp [Bxs.list])).1 (H9.out.fo P.s (by simp [Bxs.list])).2.1).1.trans H9.out.xs)
  have d1 : ∀ p : InW (KeptS A km V0), p.w.cell? ⟨P.d, 0, none⟩ = some (.bool dest) := fun p => cell0 ((p.h.same _ (H9.out.fo P.d (by simp [Bxs.list])).1 (H9.out.fo P.d (by simp [Bxs.list])).2.1).1.trans H9.out.xd)
  have d2 : ∀ p : InW (KeptS A km V0), p.w.cell? ⟨P.L, 0, none⟩ = some (.slice (some ⟨bL, oL, none⟩) l.length cl) := fun p => cell0 ((p.h.same _ (H9.out.fo P.L (by simp [Bxs.list])).1 (H9.out.fo P.L (by simp [Bxs.list])).2.1).1.trans H9.out.xL)
  have d3 : ∀ p : InW (KeptS A km V0), p.w.cell? ⟨bL, oL + k * 3 + 2, none⟩ = some (.int .u32 x.too) := fun p => by
    obtain ⟨b', o', c', hv', _, _, hc'⟩ := (H9.out.row.below (H9.out.sp.low H9.out.bkm p.h)).posAt (by omega)
    injection hv' with e1 e2 e3
    injection e1 with e1
    injection e1 with e4 e5
    subst e4 e5
    exact hc' k 2 _ (wcell hx rfl)
  clear hcell
  refine mix_take [0, 1, 3, 4, 5, 6, 7] [_, _, _, _, _, _, _] rfl rfl ?_
  simp only [List.getElem_toArray, List.getElem_cons_zero, List.getElem_cons_succ]
  repeat (go_big_quiet_step (fail))
  refine wpQuiet_nil ?_
  clear d0 d1 d2 d3 HC9
  refine mix_barS rfl (by rfl) ?_
  simp only [List.getElem_toArray, List.getElem_cons_zero, List.getElem_cons_succ]
  go_simp
  refine (field_any dest V0).mono ?_
  rintro e V0 ⟨rfl, rfl⟩
  refine ⟨KeptS A km V0, KeptS.refl _ _ _, fun _ h => h, ?_⟩
  refine mix_barS rfl (by rfl) ?_
  simp only [List.getElem_toArray, List.getElem_cons_zero, List.getElem_cons_succ]
  go_simp
  have HPUT := Lib.hid (rwPut_any H9.out.sp dest x (by have := HM.out; have := HT6.out.nl; omega))
  refine HPUT.out.mono ?_
  rintro e V1 hr
  have hk1 := hr.1
  obtain ⟨r7, τ7, rfl, hs7, ht7, hd7⟩ := hr.room (by have := HM.out; have := HT6.out.hl; omega)
  have HV1 := Lib.hid (H9.out.kept hk1 hs7)
  have HT7 := Lib.hid (HT6.out.trans ht7)
  have HP7 := Lib.hid hd7
  have HD7 := Lib.hid (HD6.out.to ht7 H9.out.sp.ok hs7.ok)
  have HO7 := Lib.hid (HO6.out.to ht7 H9.out.sp.ok hs7.ok)
  have HDO7 := Lib.hid (HDO6.out.to ht7 H9.out.sp.ok hs7.ok)
  have HK1 := Lib.hid hk1
  clear hr hs7 ht7 hd7 hk1 HPUT HD6 HO6 HDO6
  refine ⟨KeptS A km V0, HK1.out, fun _ h => h, ?_⟩
  refine mix_take [9, 10] [_, _] rfl rfl ?_
  simp only [List.getElem_toArray, List.getElem_cons_zero, List.getElem_cons_succ]
  repeat (go_big_quiet_step (fail))
  refine wpQuiet_nil ?_
  refine mix_barS rfl (by rfl) ?_
  simp only [List.getElem_toArray, List.getElem_cons_zero, List.getElem_cons_succ]
  go_simp
  refine (take_ok P.b r7 V1 HV1.out.xb).mono ?_
  rintro e V2 ⟨rfl, hb2⟩
  have HV2 := Lib.hid (HV1.out.below hb2)
  have HK2 := Lib.hid (HK1.out.trans (HV1.out.sp.kept hb2))
  clear hb2 HV1 HK1 H9
  refine ⟨KeptS A km V0, HK2.out, fun _ h => h, ?_⟩
  refine mix_take [12] [_] rfl rfl ?_
  simp only [List.getElem_toArray, List.getElem_cons_zero, List.getElem_cons_succ]
  repeat (go_big_quiet_step (fail))
  refine wpQuiet_nil ?_
  refine mix_end ?_
  clear HK2
  generalize (if dest = true then (1 : Int) else 0) = fd
  go_upto_region 5 with fail
  have hb3 : Below V2.heap.size V2 { V2 with drawn := V2.drawn + 1 } := ⟨rfl, rfl, rfl, Nat.le_refl _, fun _ _ => rfl⟩
  have H3 := Lib.hid (HV2.out.below hb3)
  clear hb3 HV2
  refine wp_region_mixZ (KeptS A km { V2 with drawn := V2.drawn + 1 }) 13 [(0, false), (1, false), (2, false), (3, false), (4, false), (5, true), (6, false), (7, false), (8, true), (9, true), (10, false), (11, false), (12, true)] (by kernel_rfl) (by kernel_rfl) (KeptS.refl _ _ _) ?_
  generalize { V2 with drawn := V2.drawn + 1 } = V3 at *
  have d0 : ∀ p : InW (KeptS A km V3), p.w.cell? ⟨P.s, 0, none⟩ = some (.pointer (some ⟨S, 0, none⟩)) := fun p => cell0 ((p.h.same _ (H3.out.fo P.s (by simp [Bxs.list])).1 (H3.out.fo P.s (by simp [Bxs.list])).2.1).1.trans H3.out.xs)
  have d1 : ∀ p : InW (KeptS A km V3), p.w.cell? ⟨P.o, 0, none⟩ = some (.int .i64 qo) := fun p => cell0 ((p.h.same _ (H3.out.fo P.o (by simp [Bxs.list])).1 (H3.out.fo P.o (by simp [Bxs.list])).2.1).1.trans H3.out.xo)
  refine mixZ_take [0, 1, 2, 3, 4] [_, _, _, _, _] rfl rfl ?_
  simp only [List.getElem_toArray, List.getElem_cons_zero, List.getElem_cons_succ]
  repeat (go_big_quiet_step (fail))
  refine wpQuiet_nil ?_
  clear d0 d1
  refine mixZ_bar rfl (by rfl) ?_
  simp only [List.getElem_toArray, List.getElem_cons_zero, List.getElem_cons_succ]
  go_simp
  have HWH := Lib.hid (relWhere_yes H3.out.sp HP7.out HO7.out ((leftW_set dest l Fs k).op2 (fun x y => x && y) (rwSet_set Fs x)) (a := K) (b := K) (Grow.wid H3.out.sp.ok.wf.two HW.out.wh) (by have := HM.out; have := HT7.out.nl; omega))
  refine HWH.out.mono ?_
  rintro e V4 hr
  have hk4 := hr.1
  obtain ⟨r8, τ8, rfl, hs8, ht8, hd8⟩ := hr.room (by have := HM.out; have := HT7.out.hl; omega)
  have H4 := Lib.hid (H3.out.kept hk4 hs8)
  have HT8 := Lib.hid (HT7.out.trans ht8)
  have HW8 := Lib.hid hd8
  have HD8 := Lib.hid (HD7.out.to ht8 H3.out.sp.ok hs8.ok)
  have HDO8 := Lib.hid (HDO7.out.to ht8 H3.out.sp.ok hs8.ok)
  have HK4 := Lib.hid hk4
  clear hr hs8 ht8 hd8 hk4 HWH HD7 HDO7 HO7 HP7
  refine ⟨KeptS A km V3, HK4.out, fun _ h => h, ?_⟩
  refine mixZ_take [6, 7] [_, _] rfl rfl ?_
  simp only [List.getElem_toArray, List.getElem_cons_zero, List.getElem_cons_succ]
  repeat (go_big_quiet_step (fail))
  refine wpQuiet_nil ?_
  refine mixZ_bar rfl (by rfl) ?_
  simp only [List.getElem_toArray, List.getElem_cons_zero, List.getElem_cons_succ]
  go_simp
  refine (take_ok P.b r8 V4 H4.out.xb).mono ?_
  rintro e V5 ⟨rfl, hb5⟩
  have H5 := Lib.hid (H4.out.below hb5)
  have HK5 := Lib.hid (HK4.out.trans (H4.out.sp.kept hb5))
  clear hb5 H4 HK4
  refine ⟨KeptS A km V3, HK5.out, fun _ h => h, ?_⟩
  refine mixZ_bar rfl (by rfl) ?_
  simp only [List.getElem_toArray, List.getElem_cons_zero, List.getElem_cons_succ]
  go_simp
  have HEI := Lib.hid (relEither_yes H5.out.sp HDO8.out HW8.out (a := K) (b := K) (Grow.wid H5.out.sp.ok.wf.two HW.out.out) (by have := HM.out; have := HT8.out.nl; omega))
  refine HEI.out.mono ?_
  rintro e V6 hr
  have hk6 := hr.1
  obtain ⟨r9, τ9, rfl, hs9, ht9, hd9⟩ := hr.room (by have := HM.out; have := HT8.out.hl; omega)
  have H6 := Lib.hid (H5.out.kept hk6 hs9)
  have HT9 := Lib.hid (HT8.out.trans ht9)
  have HO9 := Lib.hid hd9
  have HD9 := Lib.hid (HD8.out.to ht9 H5.out.sp.ok hs9.ok)
  have HK6 := Lib.hid (HK5.out.trans hk6)
  clear hr hs9 ht9 hd9 hk6 HEI HD8 HDO8 HW8 H5 HK5
  refine ⟨KeptS A km V3, HK6.out, fun _ h => h, ?_⟩
  refine mixZ_take [10, 11] [_, _] rfl rfl ?_
  simp only [List.getElem_toArray, List.getElem_cons_zero, List.getElem_cons_succ]
  repeat (go_big_quiet_step (fail))
  refine wpQuiet_nil ?_
  refine mixZ_bar rfl (by rfl) ?_
  simp only [List.getElem_toArray, List.getElem_cons_zero, List.getElem_cons_succ]
  go_simp
  refine (take_ok P.b r9 V6 H6.out.xb).mono ?_
  rintro e V7 ⟨rfl, hb7⟩
  have H7 := Lib.hid (H6.out.below hb7)
  have HK7 := Lib.hid (HK6.out.trans (H6.out.sp.kept hb7))
  clear hb7 H6 HK6
  refine ⟨KeptS A km V3, HK7.out, fun _ h => h, ?_⟩
  have c7 := cell0 H7.out.xo
  have f7 := frozen_of_row _ _ 0 _ _ H7.out.xo
  have H10 := Lib.hid (H7.out.setO r9)
  refine mixZ_end rfl (by rfl) ?_
  simp only [List.getElem_toArray, List.getElem_cons_zero, List.getElem_cons_succ]
  go_simp
  generalize V7.setCell ⟨P.o, 0, none⟩ (.int .i64 r9) = W10 at *
  have cb := cell0 H10.out.xb
  have HFIN : Hid (∃ (ql' qo' : Nat) (τ' : Sg), RelBx w0 W10 B S km A Mo τ' P dest l (.slice (some ⟨bL, oL, none⟩) l.length cl) Fs v ql' qo' ∧ To (M * (6080 + 8 * K) + 2280 + 4 * K) (M * (6080 + 8 * K) + 2280 + 4 * K) τ τ' ∧ Den τ' ql' (leftW dest l Fs (k + 1)) ∧ Den τ' qo' (outW dest l Fs (k + 1))) := Lib.hid ⟨r6, r9, τ9, H10.out, HT9.out.mono (by have := HM.out.1; omega) (by have := HM.out.1; omega), by rw [leftW_step hx hd]; exact HD9.out, by rw [outW_step hx hd]; exact HO9.out⟩
  clear c7 f7 H7 HK7 HT9 HO9 HD9 H3
  go_wp2
  go_ret
  exact ⟨rfl, HFIN.out⟩
end
end Go.Proofs.YtdjikiakcfbklaaGreat

/-
  A rewrite's relation, where there is room.
-/
namespace Go.Proofs.YtdjikiakcfbklaaGreat
open Go Go.RowKit Go.ChangeMaps Go.MapKept Go.Maps Go.Lib Go.Sort

def stepC (K M : Nat) : Nat := M * (6080 + 8 * K) + 2280 + 4 * K
section
variable {B S km : Nat} {A : Blks} {Mo : Nat} {σ : Sg} {w0 : World} {P : Bxs} {dest : Bool} {l : List RewV} {vl : Value} {Fs : List FiltV} {v : Value}
def RelSt (w0 : World) (B S km : Nat) (A : Blks) (Mo : Nat) (σ : Sg) (P : Bxs) (dest : Bool) (l : List RewV) (vl : Value) (Fs : List FiltV) (v : Value) (C : Nat) (k : Nat) (W : World) : Prop :=
  ∃ (ql qo : Nat) (τ : Sg), RelBx w0 W B S km A Mo τ P dest l vl Fs v ql qo ∧ To (k * C) (k * C) σ τ ∧ Den τ ql (leftW dest l Fs k) ∧ Den τ qo (outW dest l Fs k)
theorem RelBx.size {W : World} {τ : Sg} {ql qo : Nat} (h : RelBx w0 W B S km A Mo τ P dest l vl Fs v ql qo) : B ≤ W.heap.size := by
  obtain ⟨nv, ha⟩ := h.sp.sp.ar
  exact Nat.le_of_lt (Nat.lt_of_le_of_lt (ha.base A.a (by simp [Blks.list])) (lt_of_block ha.cells))
def relCaps (P : Bxs) : Array Value := #[.pointer (some ⟨P.b, 0, none⟩), .pointer (some ⟨P.s, 0, none⟩), .pointer (some ⟨P.l, 0, none⟩), .pointer (some ⟨P.d, 0, none⟩), .pointer (some ⟨P.L, 0, none⟩), .pointer (some ⟨P.o, 0, none⟩)]
theorem relEach {K M : Nat} (hw : ∀ (k : Nat) (x : RewV), l[k]? = some x → x.dest = dest → StepW dest l Fs K M k x) (hroom : σ.H.length + l.length * stepC K M ≤ Mo) (hnl : σ.N.length + l.length * stepC K M ≤ 2147483647) :
    EachOk 68 (relCaps P) l vl Fs v dest (RelSt w0 B S km A Mo σ P dest l vl Fs v (stepC K M)) where
  en := enters_of Tryz.func68 (by kernel_rfl) rfl
  below := fun k W W' ⟨ql, qo, τ, h, ht, h1, h2⟩ hb => ⟨ql, qo, τ, h.below hb, ht, h1, h2⟩
  row := fun k W ⟨ql, qo, τ, h, _⟩ => h.row.mono h.size
  fs := fun k W ⟨ql, qo, τ, h, _⟩ => h.fs.mono h.size
  skip := fun k x W hx hd ⟨ql, qo, τ, h, ht, h1, h2⟩ => ⟨ql, qo, τ, h, ht.mono (Nat.mul_le_mul_right _ (Nat.le_succ k)) (Nat.mul_le_mul_right _ (Nat.le_succ k)), by rw [leftW_skip hx hd]; exact h1, by rw [outW_skip hx hd]; exact h2⟩
  step := fun k x PA c W0 W hx hd ⟨ql, qo, τ, h, ht, h1, h2⟩ hb hr hn => by
    have hkl : k < l.length := (List.getElem?_eq_some_iff.1 hx).1
    have hm1 : (k + 1) * stepC K M ≤ l.length * stepC K M := Nat.mul_le_mul_right _ hkl
    have hm2 : (k + 1) * stepC K M = k * stepC K M + stepC K M := by rw [Nat.add_mul, Nat.one_mul]
    have hrf : RdF A km W 10 (.slice PA (namL Fs x.nm).length c) (namL Fs x.nm).length (rcells (namL Fs x.nm)) := by
      obtain ⟨Q, c', hv, hc, hlen, hp⟩ := hr
      injection hv with e1 e2 e3
      subst e1 e3
      refine ⟨PA, c, rfl, hc, hlen, fun h0 => ?_⟩
      obtain ⟨b, off, hA, hlt, hcell⟩ := hp h0
      obtain ⟨b2, off2, hA2, hge⟩ := hn h0
      rw [hA] at hA2
      injection hA2 with e4
      injection e4 with e4 e5
      subst e4
      exact ⟨b, off, hA, h.sp.sp.ar.foreign_new hb hge hlt, by have := h.sp.sp.fk.1; omega, hcell⟩
    have hst := relStep (h.below hb) h1 h2 hx hd (namNm Fs x.nm) _ hrf (hw k x hx hd) (by have := ht.hl; show τ.H.length + stepC K M ≤ Mo; omega) (by have := ht.nl; show τ.N.length + stepC K M ≤ 2147483647; omega)
    refine hst.mono ?_
    rintro e W' ⟨rfl, ql', qo', τ', h', ht', h1', h2'⟩
    exact ⟨rfl, ql', qo', τ', h', by rw [hm2]; exact ht.trans ht', h1', h2'⟩
/-- What leads where, of all headers. -/
def relW (dest : Bool) (l : List RewV) (Fs : List FiltV) : Fun := fun s => outW dest l Fs l.length s || (sameF 0 0 104 s && leftW dest l Fs l.length s)
set_option maxRecDepth 100000 in
set_option maxHeartbeats 8000000 in
theorem relation_yes {w : World} (h : SpOk w B S km A Mo σ) (hkm : B ≤ km) (hl : Rd w B 3 vl l.length (wcells l)) (hf : FsAt w B v Fs) (hlen : Fs.length ≤ 9223372036854775807) (hll : l.length ≤ 256) (he : rwE Fs l = 0) {K K2 M : Nat} (hw : ∀ (k : Nat) (x : RewV), l[k]? = some x → x.dest = dest → StepW dest l Fs K M k x)
    (hw1 : Wid (fun s => sameF 0 0 104 s && leftW dest l Fs l.length s) K) (hw2 : Wid (relW dest l Fs) K2) (hroom : σ.H.length + (l.length * stepC K M + 936 + (K + K2)) ≤ Mo) (hnl : σ.N.length + (l.length * stepC K M + 936 + (K + K2)) ≤ 2147483647) :
    Calls Tryz.prog 34 #[.pointer (some ⟨S, 0, none⟩), vl, v, .bool dest] w fun e w' => ∃ (r : Nat) (τ : Sg), e = .returned (.tuple #[.int .i64 r, .int .i64 0]) ∧ SpOk w' B S km A Mo τ ∧ KeptS A km w w' ∧ To (l.length * stepC K M + 936 + (K + K2)) (l.length * stepC K M + 936 + (K + K2)) σ τ ∧ Den τ r (relW dest l Fs) := by
  obtain ⟨PL, cL, rfl, _⟩ := hl.form
  obtain ⟨PF, cF, rfl, _⟩ := hf.1.form
  have hb1 : Below w.heap.size w (((w.alloc (.cells #[.pointer (some ⟨S, 0, none⟩)] 41)).alloc (.cells #[.slice PL l.length cL] 22)).alloc (.cells #[.bool dest] 4)) := (below2 w (.cells #[.pointer (some ⟨S, 0, none⟩)] 41) (.cells #[.slice PL l.length cL] 22)).alloc (below2 w (.cells #[.pointer (some ⟨S, 0, none⟩)] 41) (.cells #[.slice PL l.length cL] 22)).size (.cells #[.bool dest] 4)
  obtain ⟨k0, k1, k2⟩ := blk3 w (.cells #[.pointer (some ⟨S, 0, none⟩)] 41) (.cells #[.slice PL l.length cL] 22) (.cells #[.bool dest] 4)
  have H1 := Lib.hid (h.below hb1)
  have HK1 := Lib.hid (h.kept hb1)
  have HB1 := Lib.hid hb1
  have HSZ : Hid (B ≤ w.heap.size ∧ S < w.heap.size ∧ km < w.heap.size) := Lib.hid ⟨by
    obtain ⟨nv, ha⟩ := h.sp.ar
    exact Nat.le_of_lt (Nat.lt_of_le_of_lt (ha.base A.a (by simp [Blks.list])) (lt_of_block ha.cells)), lt_of_block h.sp.cells, h.sp.fk.1⟩
  have HL1 := Lib.hid (hl.below (hb1.mono HSZ.out.1))
  have HF1 := Lib.hid (hf.below (hb1.mono HSZ.out.1))
  have hck := rwCheck_any l _ Fs _ (((w.alloc (.cells #[.pointer (some ⟨S, 0, none⟩)] 41)).alloc (.cells #[.slice PL l.length cL] 22)).alloc (.cells #[.bool dest] 4)) (HL1.out.mono (Nat.le_trans HSZ.out.1 hb1.size)) (HF1.out.mono (Nat.le_trans HSZ.out.1 hb1.size)) hlen
  rw [he] at hck
  have HCK := Lib.hid hck
  have K0 := Lib.hid k0
  have K1 := Lib.hid k1
  have K2 := Lib.hid k2
  have c0 := cell0 k0
  have c1 := cell0 k1
  have HW := Lib.hid hw
  have HRM := Lib.hid (And.intro hroom hnl)
  have HWW := Lib.hid (And.intro hw1 hw2)
  have H0 := Lib.hid h
  clear h hl hf hck hb1 k0 k1 k2 hw hroom hnl hw1 hw2
  go_enter Tryz.func34, Tryz.ntmps34
  go_upto_region 1 with fail
  generalize (((w.alloc (.cells #[.pointer (some ⟨S, 0, none⟩)] 41)).alloc (.cells #[.slice PL l.length cL] 22)).alloc (.cells #[.bool dest] 4)) = W1 at *
  go_upto_region 6 with ((with_reducible refine HCK.out.mono ?_); rintro e W2 ⟨rfl, hb2⟩; have HB2 := Lib.hid hb2; clear hb2)
  clear c0 c1
  have c0 := cell0 (blk_below HB2.out K0.out)
  have c1 := cell0 (blk_below HB2.out K1.out)
  have c2 := cell0 (blk_below HB2.out K2.out)
  go_upto_region 8 with fail
  have hb3 := below3 W2 (.cells #[.int .i64 0] 113) (.cells #[.int .i64 0] 3) (.cells #[.int .i64 1] 3)
  obtain ⟨j0, j1, j2⟩ := blk3 W2 (.cells #[.int .i64 0] 113) (.cells #[.int .i64 0] 3) (.cells #[.int .i64 1] 3)
  have hb23 : Below W1.heap.size W1 (((W2.alloc (.cells #[.int .i64 0] 113)).alloc (.cells #[.int .i64 0] 3)).alloc (.cells #[.int .i64 1] 3)) := HB2.out.trans (hb3.mono HB2.out.size)
  have hball : Below w.heap.size w (((W2.alloc (.cells #[.int .i64 0] 113)).alloc (.cells #[.int .i64 0] 3)).alloc (.cells #[.int .i64 1] 3)) := HB1.out.trans (hb23.mono HB1.out.size)
  have hz : w.heap.size + 1 + 1 < W2.heap.size := Nat.lt_of_lt_of_le (lt_of_block K2.out) HB2.out.size
  have hlt := lt_of_block j2
  have hin : ∀ x ∈ (⟨W2.heap.size, w.heap.size, W2.heap.size + 1 + 1, w.heap.size + 1 + 1, w.heap.size + 1, W2.heap.size + 1⟩ : Bxs).list, w.heap.size ≤ x ∧ x < (((W2.alloc (.cells #[.int .i64 0] 113)).alloc (.cells #[.int .i64 0] 3)).alloc (.cells #[.int .i64 1] 3)).heap.size := fun x hx => by
    simp only [Bxs.list, List.mem_cons, List.not_mem_nil, or_false] at hx
    rcases hx with rfl | rfl | rfl | rfl | rfl | rfl <;> exact ⟨by omega, by omega⟩
  have hbx : RelBx w (((W2.alloc (.cells #[.int .i64 0] 113)).alloc (.cells #[.int .i64 0] 3)).alloc (.cells #[.int .i64 1] 3)) B S km A Mo σ (⟨W2.heap.size, w.heap.size, W2.heap.size + 1 + 1, w.heap.size + 1 + 1, w.heap.size + 1, W2.heap.size + 1⟩ : Bxs) dest l (.slice PL l.length cL) Fs (.slice PF Fs.length cF) 1 0 :=
    ⟨H0.out.below hball, hkm, j0, blk_below hb23 K0.out, j2, blk_below hb23 K2.out, blk_below hb23 K1.out, j1, by
      simp only [Bxs.list, List.nodup_cons, List.mem_cons, List.not_mem_nil, or_false, not_or, List.nodup_nil, and_true, not_false_eq_true]
      omega, fun x hx => ⟨H0.out.sp.ar.foreign_new hball (hin x hx).1 (hin x hx).2, by have := HSZ.out; have := (hin x hx).1; omega, by have := HSZ.out; have := (hin x hx).1; omega, (hin x hx).1, by have := HSZ.out; have := (hin x hx).1; omega⟩,
      HL1.out.below (hb23.mono (Nat.le_trans HSZ.out.1 HB1.out.size)), HF1.out.below (hb23.mono (Nat.le_trans HSZ.out.1 HB1.out.size)), H0.out.kept hball⟩
  have heach : Calls Tryz.prog 67 #[.slice PL l.length cL, .slice PF Fs.length cF, .bool dest, .func (.func 68) #[] #[.pointer (some ⟨W2.heap.size, 0, none⟩), .pointer (some ⟨w.heap.size, 0, none⟩), .pointer (some ⟨W2.heap.size + 1 + 1, 0, none⟩), .pointer (some ⟨w.heap.size + 1 + 1, 0, none⟩), .pointer (some ⟨w.heap.size + 1, 0, none⟩), .pointer (some ⟨W2.heap.size + 1, 0, none⟩)]] (((W2.alloc (.cells #[.int .i64 0] 113)).alloc (.cells #[.int .i64 0] 3)).alloc (.cells #[.int .i64 1] 3))
      (fun e w' => e = .returned (.tuple #[]) ∧ RelSt w B S km A Mo σ (⟨W2.heap.size, w.heap.size, W2.heap.size + 1 + 1, w.heap.size + 1 + 1, w.heap.size + 1, W2.heap.size + 1⟩ : Bxs) dest l (.slice PL l.length cL) Fs (.slice PF Fs.length cF) (stepC K M) l.length w') :=
    eachW_any (relEach HW.out (by have := HRM.out; omega) (by have := HRM.out; omega)) (((W2.alloc (.cells #[.int .i64 0] 113)).alloc (.cells #[.int .i64 0] 3)).alloc (.cells #[.int .i64 1] 3)) ⟨1, 0, σ, hbx, by rw [Nat.zero_mul]; exact To.refl σ, Den.one H0.out.ok, Den.zero H0.out.ok⟩ hlen hll
  have HEACH := Lib.hid heach
  have e0 := cell0 (blk_below hb23 K0.out)
  have e1 := cell0 (blk_below hb23 K1.out)
  have e2 := cell0 (blk_below hb23 K2.out)
  clear heach hbx hin hlt hz hball hb23 j0 j1 j2 hb3 c0 c1 c2 HCK K0 K1 K2 HL1 HF1 HK1 H1 HW
  generalize (((W2.alloc (.cells #[.int .i64 0] 113)).alloc (.cells #[.int .i64 0] 3)).alloc (.cells #[.int .i64 1] 3)) = W3 at *
  go_upto_region 9 with ((with_reducible refine HEACH.out.mono ?_); rintro e W4 ⟨rfl, ql, qo, τ4, hx4, ht4, hl4, ho4⟩; have HX4 := Lib.hid hx4; have HT4 := Lib.hid ht4; have HL4 := Lib.hid hl4; have HO4 := Lib.hid ho4; clear hx4 ht4 hl4 ho4)
  clear HEACH
  have hb5 : Below W4.heap.size W4 { W4 with drawn := W4.drawn + 1 } := ⟨rfl, rfl, rfl, Nat.le_refl _, fun _ _ => rfl⟩
  have H5 := Lib.hid (HX4.out.below hb5)
  clear hb5 HX4
  refine wp_region_mixZ (KeptS A km { W4 with drawn := W4.drawn + 1 }) 17 [(0, false), (1, false), (2, false), (3, false), (8, false), (4, true), (5, false), (6, false), (7, true), (9, true), (10, false), (11, false), (12, true), (13, true), (14, false), (15, false), (16, true)] (by kernel_rfl) (by kernel_rfl) (KeptS.refl _ _ _) ?_
  generalize { W4 with drawn := W4.drawn + 1 } = V3 at *
  have d0 : ∀ p : InW (KeptS A km V3), p.w.cell? ⟨w.heap.size, 0, none⟩ = some (.pointer (some ⟨S, 0, none⟩)) := fun p => cell0 ((p.h.same _ (H5.out.fo _ (by simp [Bxs.list])).1 (H5.out.fo w.heap.size (by simp [Bxs.list])).2.1).1.trans H5.out.xs)
  have d1 : ∀ p : InW (KeptS A km V3), p.w.cell? ⟨W2.heap.size + 1, 0, none⟩ = some (.int .i64 qo) := fun p => cell0 ((p.h.same _ (H5.out.fo _ (by simp [Bxs.list])).1 (H5.out.fo (W2.heap.size + 1) (by simp [Bxs.list])).2.1).1.trans H5.out.xo)
  have d2 : ∀ p : InW (KeptS A km V3), p.w.cell? ⟨W2.heap.size + 1 + 1, 0, none⟩ = some (.int .i64 ql) := fun p => cell0 ((p.h.same _ (H5.out.fo _ (by simp [Bxs.list])).1 (H5.out.fo (W2.heap.size + 1 + 1) (by simp [Bxs.list])).2.1).1.trans H5.out.xl)
  refine mixZ_take [0, 1, 2, 3, 8] [_, _, _, _, _] rfl rfl ?_
  simp only [List.getElem_toArray, List.getElem_cons_zero, List.getElem_cons_succ]
  repeat (go_big_quiet_step (fail))
  refine wpQuiet_nil ?_
  clear d0 d1 d2
  refine mixZ_bar rfl (by rfl) ?_
  simp only [List.getElem_toArray, List.getElem_cons_zero, List.getElem_cons_succ]
  go_simp
  have HKE := Lib.hid (keep_any H5.out.sp (by have := HRM.out; have := HT4.out.nl; omega))
  refine HKE.out.mono ?_
  rintro e V4 hr
  have hk4 := hr.1
  obtain ⟨r5, τ5, rfl, hs5, ht5, hd5⟩ := hr.room (by have := HRM.out; have := HT4.out.hl; omega)
  have H6 := Lib.hid (H5.out.kept hk4 hs5)
  have HT5 := Lib.hid (HT4.out.trans ht5)
  have HD5 := Lib.hid hd5
  have HL5 := Lib.hid (HL4.out.to ht5 H5.out.sp.ok hs5.ok)
  have HO5 := Lib.hid (HO4.out.to ht5 H5.out.sp.ok hs5.ok)
  have HK4 := Lib.hid hk4
  clear hr hs5 ht5 hd5 hk4 HKE HL4 HO4
  refine ⟨KeptS A km V3, HK4.out, fun _ h => h, ?_⟩
  refine mixZ_take [5, 6] [_, _] rfl rfl ?_
  simp only [List.getElem_toArray, List.getElem_cons_zero, List.getElem_cons_succ]
  repeat (go_big_quiet_step (fail))
  refine wpQuiet_nil ?_
  refine mixZ_bar rfl (by rfl) ?_
  simp only [List.getElem_toArray, List.getElem_cons_zero, List.getElem_cons_succ]
  go_simp
  refine (take_ok W2.heap.size r5 V4 H6.out.xb).mono ?_
  rintro e V5 ⟨rfl, hb5⟩
  have H7 := Lib.hid (H6.out.below hb5)
  have HK5 := Lib.hid (HK4.out.trans (H6.out.sp.kept hb5))
  clear hb5 H6 HK4
  refine ⟨KeptS A km V3, HK5.out, fun _ h => h, ?_⟩
  refine mixZ_bar rfl (by rfl) ?_
  simp only [List.getElem_toArray, List.getElem_cons_zero, List.getElem_cons_succ]
  go_simp
  have HWH := Lib.hid (relWhere_yes H7.out.sp HD5.out HL5.out (leftW_set dest l Fs l.length) (a := K) (b := K) (Grow.wid H7.out.sp.ok.wf.two HWW.out.1) (by have := HRM.out; have := HT5.out.nl; omega))
  refine HWH.out.mono ?_
  rintro e V6 hr
  have hk6 := hr.1
  obtain ⟨r6, τ6, rfl, hs6, ht6, hd6⟩ := hr.room (by have := HRM.out; have := HT5.out.hl; omega)
  have H8 := Lib.hid (H7.out.kept hk6 hs6)
  have HT6 := Lib.hid (HT5.out.trans ht6)
  have HD6 := Lib.hid hd6
  have HO6 := Lib.hid (HO5.out.to ht6 H7.out.sp.ok hs6.ok)
  have HK6 := Lib.hid (HK5.out.trans hk6)
  clear hr hs6 ht6 hd6 hk6 HWH HL5 HO5 H7 HK5
  refine ⟨KeptS A km V3, HK6.out, fun _ h => h, ?_⟩
  refine mixZ_take [10, 11] [_, _] rfl rfl ?_
  simp only [List.getElem_toArray, List.getElem_cons_zero, List.getElem_cons_succ]
  repeat (go_big_quiet_step (fail))
  refine wpQuiet_nil ?_
  refine mixZ_bar rfl (by rfl) ?_
  simp only [List.getElem_toArray, List.getElem_cons_zero, List.getElem_cons_succ]
  go_simp
  refine (take_ok W2.heap.size r6 V6 H8.out.xb).mono ?_
  rintro e V7 ⟨rfl, hb7⟩
  have H9 := Lib.hid (H8.out.below hb7)
  have HK7 := Lib.hid (HK6.out.trans (H8.out.sp.kept hb7))
  clear hb7 H8 HK6
  refine ⟨KeptS A km V3, HK7.out, fun _ h => h, ?_⟩
  refine mixZ_bar rfl (by rfl) ?_
  simp only [List.getElem_toArray, List.getElem_cons_zero, List.getElem_cons_succ]
  go_simp
  have HEI := Lib.hid (relEither_yes H9.out.sp HO6.out HD6.out (a := K2) (b := K2) (Grow.wid H9.out.sp.ok.wf.two HWW.out.2) (by have := HRM.out; have := HT6.out.nl; omega))
  refine HEI.out.mono ?_
  rintro e V8 hr
  have hk8 := hr.1
  obtain ⟨r7, τ7, rfl, hs7, ht7, hd7⟩ := hr.room (by have := HRM.out; have := HT6.out.hl; omega)
  have H10 := Lib.hid (H9.out.kept hk8 hs7)
  have HT7 := Lib.hid (HT6.out.trans ht7)
  have HD7 := Lib.hid (show Den τ7 r7 (relW dest l Fs) from hd7)
  have HK8 := Lib.hid (HK7.out.trans hk8)
  clear hr hs7 ht7 hd7 hk8 HEI HD6 HO6 H9 HK7
  refine ⟨KeptS A km V3, HK8.out, fun _ h => h, ?_⟩
  refine mixZ_take [14, 15] [_, _] rfl rfl ?_
  simp only [List.getElem_toArray, List.getElem_cons_zero, List.getElem_cons_succ]
  repeat (go_big_quiet_step (fail))
  refine wpQuiet_nil ?_
  refine mixZ_bar rfl (by rfl) ?_
  simp only [List.getElem_toArray, List.getElem_cons_zero, List.getElem_cons_succ]
  go_simp
  refine (take_ok W2.heap.size r7 V8 H10.out.xb).mono ?_
  rintro e V9 ⟨rfl, hb9⟩
  have H11 := Lib.hid (H10.out.below hb9)
  have HK9 := Lib.hid (HK8.out.trans (H10.out.sp.kept hb9))
  clear hb9 H10 HK8
  refine ⟨KeptS A km V3, HK9.out, fun _ h => h, ?_⟩
  have c7 : V9.cell? ⟨W2.heap.size + 1, 0, none⟩ = some (.int .i64 qo) := cell0 H11.out.xo
  have f7 : V9.frozen? ⟨W2.heap.size + 1, 0, none⟩ = false := frozen_of_row _ _ 0 _ _ H11.out.xo
  have H12 := Lib.hid (H11.out.setO r7)
  refine mixZ_end rfl (by rfl) ?_
  simp only [List.getElem_toArray, List.getElem_cons_zero, List.getElem_cons_succ]
  go_simp
  have H13 : Hid (RelBx w (V9.setCell ⟨W2.heap.size + 1, 0, none⟩ (.int .i64 r7)) B S km A Mo τ7 (⟨W2.heap.size, w.heap.size, W2.heap.size + 1 + 1, w.heap.size + 1 + 1, w.heap.size + 1, W2.heap.size + 1⟩ : Bxs) dest l (.slice PL l.length cL) Fs (.slice PF Fs.length cF) ql r7) := Lib.hid H12.out
  clear c7 f7 H11 H12 HK9
  generalize V9.setCell ⟨W2.heap.size + 1, 0, none⟩ (.int .i64 r7) = W10 at *
  have cb : W10.cell? ⟨W2.heap.size, 0, none⟩ = some (.int .i64 0) := cell0 H13.out.xb
  have co : W10.cell? ⟨W2.heap.size + 1, 0, none⟩ = some (.int .i64 r7) := cell0 H13.out.xo
  have HFIN : Hid (SpOk W10 B S km A Mo τ7 ∧ KeptS A km w W10 ∧ To (l.length * stepC K M + 936 + (K + K2)) (l.length * stepC K M + 936 + (K + K2)) σ τ7 ∧ Den τ7 r7 (relW dest l Fs)) := Lib.hid ⟨H13.out.sp, H13.out.kp, HT7.out.mono (by omega) (by omega), HD7.out⟩
  clear H13 HT7 HD7
  go_wp2
  go_ret2
  exact ⟨r7, τ7, rfl, HFIN.out⟩
end
end Go.Proofs.YtdjikiakcfbklaaGreat

/-
  How many nodes the relation of the small example takes; where it leads.
-/
namespace Go.Proofs.YtdjikiakcfbklaaGreat
open Go Go.RowKit Go.ChangeMaps Go.MapKept Go.Maps Go.Lib Go.Sort

/-- A function of the headers' bits with c cuts at most at each variable. -/
structure WC (F : Fun) (c : Nat) : Prop where
  h : Hangs F 0 208
  c : ∀ v, CutLe F v c
theorem WC.wid {F : Fun} {c K : Nat} (h : WC F c) (hc : 208 * c ≤ K) : Wid F K := (Wid.all h.h h.c).mono hc
theorem WC.mono {F : Fun} {c d : Nat} (h : WC F c) (hc : c ≤ d) : WC F d := ⟨h.h, fun v => (h.c v).mono hc⟩
theorem WC.op2 {F G : Fun} {a b : Nat} (o : Bool → Bool → Bool) (f : WC F a) (g : WC G b) : WC (fun s => o (F s) (G s)) (a * b) := ⟨f.h.op2 o g.h, fun v => (f.c v).op2 o (g.c v)⟩
theorem WC.const (b : Bool) : WC (fun _ => b) 1 := ⟨Hangs.const b 0 208, fun v => CutLe.const b v⟩
theorem WC.bits (a n v : Nat) (h : a + n ≤ 104) : WC (bitsF a 0 n v n) 2 := ⟨bitsF_hang a 0 n v (by omega) h, fun u => (bitsF_cut a 0 n v u (by omega) n (Nat.le_refl _)).le⟩
theorem WC.put (dest : Bool) (x : RewV) : WC (rwPut dest x) 6 := by
  cases dest
  · exact ⟨putF_hang 0 32 _ (by omega), fun u => putF_cut 0 32 _ u⟩
  · exact ⟨putF_hang 32 32 _ (by omega), fun u => putF_cut 32 32 _ u⟩
theorem WC.keep : WC (sameF 0 0 104) 3 := ⟨sameF_hang 0 0, fun u => (sameF_cut 0 0 u 104 (Nat.le_refl _)).le⟩
theorem WC.span (a n lo hi : Nat) (h : a + n ≤ 104) : WC (spanF a n lo hi) 9 := ⟨spanF_hang a n lo hi h, fun u => spanF_cut a n lo hi u⟩
/-- The rule of what comes from 10/8. -/
def tenR : RuleV := ⟨true, -1, 167772160, 8, 0, 0, 0, 65535, 0, 65535, by omega, by omega, by omega, by omega, by omega, by omega, by omega⟩
theorem ten_one : ruleK tenR 1 = bitsF 0 0 8 10 8 := by
  funext s
  show (true && bitsF 0 0 8 10 8 s) = _
  simp
theorem ten_ask : ∀ k, 1 ≤ k → k < 4 → askF tenR k = fun _ => true := by
  intro k h1 hk
  obtain rfl | rfl | rfl : k = 1 ∨ k = 2 ∨ k = 3 := by omega
  · rfl
  · exact spanF_all 72 16 16 (Nat.le_refl _)
  · exact spanF_all 88 16 16 (Nat.le_refl _)
theorem ten_K : ∀ k, 1 ≤ k → k ≤ 4 → ruleK tenR k = bitsF 0 0 8 10 8 := by
  intro k
  induction k with
  | zero => intro h; omega
  | succ k ih =>
    intro _ hk
    rcases Nat.eq_zero_or_pos k with rfl | h0
    · exact ten_one
    · unfold ruleK
      rw [ih h0 (by omega), ten_ask k h0 (by omega)]
      funext s
      simp
theorem ten_F : ruleF tenR = bitsF 0 0 8 10 8 := ten_K 4 (by omega) (Nat.le_refl _)
theorem ten_wc (j : Nat) (hj : j ≤ 5) : WC (ruleK tenR j) 18 := by
  rcases Nat.eq_zero_or_pos j with rfl | h0
  · exact (WC.const true).mono (by omega)
  · rcases Nat.lt_or_ge j 5 with h1 | h1
    · rw [ten_K j h0 (by omega)]
      exact (WC.bits 0 8 10 (by omega)).mono (by omega)
    · obtain rfl : j = 5 := by omega
      show WC (fun s => ruleK tenR 4 s && spanF 64 8 _ _ s) 18
      rw [ten_K 4 (by omega) (Nat.le_refl _)]
      exact (WC.bits 0 8 10 (by omega)).op2 (fun x y => x && y) (WC.span 64 8 _ _ (by omega))
theorem open_wc (j : Nat) (hj : j ≤ 5) : WC (ruleK openR j) 18 := by
  rcases Nat.lt_or_ge j 5 with h1 | h1
  · rw [show ruleK openR j = fun _ => true from wide_ruleK true (-1) (by omega) j (by omega)]
    exact (WC.const true).mono (by omega)
  · obtain rfl : j = 5 := by omega
    rw [show ruleK openR 5 = spanF 64 8 (-1 : Int).toNat (-1 : Int).toNat from wide_five true (-1) (by omega)]
    exact (WC.span 64 8 _ _ (by omega)).mono (by omega)
/-- Filters of one rule that permits. -/
theorem one_left1 (r : RuleV) : leftF [r] 1 = fun s => leftF [r] 0 s && !ruleF r s := leftF_succ (show [r][0]? = some r from rfl)
theorem one_dec (r : RuleV) : decF [r] 0 = fun s => leftF [r] 0 s && ruleF r s := decF_eq (show [r][0]? = some r from rfl)
theorem one_left0 (r : RuleV) : leftF [r] 0 = fun _ => true := rfl
theorem one_set (r : RuleV) (hp : r.permit = true) : setF [r] 1 = ruleF r := by
  show (if permitAt [r] 0 then fun s => setF [r] 0 s || decF [r] 0 s else setF [r] 0) = _
  rw [if_pos (show permitAt [r] 0 = true from hp), one_dec, one_left0]
  funext s
  show (false || (true && ruleF r s)) = ruleF r s
  simp
theorem one_filt {r : RuleV} (hj : ∀ j, j ≤ 5 → WC (ruleK r j) 18) (hF : WC (ruleF r) 2) {K : Nat} (hK : 3744 ≤ K) : FiltW [r] K := by
  intro k x hx
  obtain rfl : k = 0 := by
    have := (List.getElem?_eq_some_iff.1 hx).1
    simp at this
    omega
  obtain rfl : x = r := by injection hx with hx; exact hx.symm
  refine ⟨fun j h => (hj j h).wid (by omega), ?_, ?_⟩
  · rw [one_dec, one_left0]
    exact ((WC.const true).op2 (fun x y => x && y) hF).wid (by omega)
  · rw [one_left1, one_left0]
    exact ((WC.const true).op2 (fun x y => x && !y) hF).wid (by omega)
theorem one_sets {r : RuleV} (hp : r.permit = true) (hF : WC (ruleF r) 2) {K : Nat} (hK : 3744 ≤ K) : ∀ j, j ≤ [r].length → Wid (setF [r] j) K := by
  intro j hj
  have h1 : [r].length = 1 := rfl
  obtain rfl | rfl : j = 0 ∨ j = 1 := by omega
  · exact (WC.const false).wid (by omega)
  · rw [one_set r hp]; exact hF.wid (by omega)
theorem ten_F2 : WC (ruleF tenR) 2 := by rw [ten_F]; exact WC.bits 0 8 10 (by omega)
theorem open_F1 : WC (ruleF openR) 1 := by rw [openR_F]; exact WC.const true
/-- The small example. -/
def smallL : List RewV := [⟨false, ⟨#[102]⟩, 16909060, by omega⟩, ⟨true, ⟨#[103]⟩, 84281096, by omega⟩, ⟨false, ⟨#[103]⟩, 151587081, by omega⟩]
def smallF (v0 v1 : Value) : List FiltV := [⟨⟨#[102]⟩, v0, [tenR]⟩, ⟨⟨#[103]⟩, v1, [openR]⟩]
theorem nm_f : (⟨#[102]⟩ : ByteArray).toList = [102] := by
  first
    | decide +kernel
    | simp [ByteArray.toList, ByteArray.toList.loop]
theorem nm_g : (⟨#[103]⟩ : ByteArray).toList = [103] := by
  first
    | decide +kernel
    | simp [ByteArray.toList, ByteArray.toList.loop]
theorem small_f (v0 v1 : Value) : namL (smallF v0 v1) ⟨#[102]⟩ = [tenR] := by
  have hn : ¬ (⟨#[102]⟩ : ByteArray).toList = [] := by rw [nm_f]; simp
  have h := fnd_hit (Fs := smallF v0 v1) (nm := ⟨#[102]⟩) (k := 0) (idxP_hit _ _ 0 _ rfl (by unfold hasNm; simp) (fun j y hj _ => by omega)) rfl
  unfold namL fndL
  rw [if_neg hn, h]
theorem small_g (v0 v1 : Value) : namL (smallF v0 v1) ⟨#[103]⟩ = [openR] := by
  have hn : ¬ (⟨#[103]⟩ : ByteArray).toList = [] := by rw [nm_g]; simp
  have h := fnd_hit (Fs := smallF v0 v1) (nm := ⟨#[103]⟩) (k := 1) (idxP_hit _ _ 1 _ rfl (by unfold hasNm; simp) (fun j y hj hy => by
    obtain rfl : j = 0 := by omega
    injection hy with hy
    subst hy
    unfold hasNm
    rw [nm_f, nm_g]
    decide)) rfl
  unfold namL fndL
  rw [if_neg hn, h]
theorem small_rs (v0 v1 : Value) {x : RewV} (h : x.nm = ⟨#[102]⟩) : rwSet (smallF v0 v1) x = bitsF 0 0 8 10 8 := by
  unfold rwSet
  rw [h, small_f]
  exact (one_set tenR rfl).trans ten_F
theorem small_rg (v0 v1 : Value) {x : RewV} (h : x.nm = ⟨#[103]⟩) : rwSet (smallF v0 v1) x = fun _ => true := by
  unfold rwSet
  rw [h, small_g]
  exact (one_set openR rfl).trans openR_F
def sx0 : RewV := ⟨false, ⟨#[102]⟩, 16909060, by omega⟩
def sx2 : RewV := ⟨false, ⟨#[103]⟩, 151587081, by omega⟩
theorem small_left (v0 v1 : Value) : leftW false smallL (smallF v0 v1) 1 = (fun s => true && !bitsF 0 0 8 10 8 s) ∧ leftW false smallL (smallF v0 v1) 2 = (fun s => true && !bitsF 0 0 8 10 8 s) ∧ leftW false smallL (smallF v0 v1) 3 = (fun s => (true && !bitsF 0 0 8 10 8 s) && !true) := by
  have h1 : leftW false smallL (smallF v0 v1) 1 = (fun s => true && !bitsF 0 0 8 10 8 s) := by
    refine (leftW_step (dest := false) (l := smallL) (Fs := smallF v0 v1) (k := 0) (x := sx0) rfl rfl).trans ?_
    rw [small_rs v0 v1 rfl]
    rfl
  have h2 : leftW false smallL (smallF v0 v1) 2 = (fun s => true && !bitsF 0 0 8 10 8 s) := by
    exact (leftW_skip (dest := false) (l := smallL) (Fs := smallF v0 v1) (k := 1) (x := ⟨true, ⟨#[103]⟩, 84281096, by omega⟩) rfl (by simp)).trans h1
  refine ⟨h1, h2, ?_⟩
  refine (leftW_step (dest := false) (l := smallL) (Fs := smallF v0 v1) (k := 2) (x := sx2) rfl rfl).trans ?_
  rw [small_rg v0 v1 rfl, h2]
theorem small_out (v0 v1 : Value) : outW false smallL (smallF v0 v1) 1 = (fun s => false || (rwPut false sx0 s && (true && bitsF 0 0 8 10 8 s))) ∧ outW false smallL (smallF v0 v1) 2 = (fun s => false || (rwPut false sx0 s && (true && bitsF 0 0 8 10 8 s))) ∧
    outW false smallL (smallF v0 v1) 3 = (fun s => (false || (rwPut false sx0 s && (true && bitsF 0 0 8 10 8 s))) || (rwPut false sx2 s && ((true && !bitsF 0 0 8 10 8 s) && true))) := by
  have h1 : outW false smallL (smallF v0 v1) 1 = (fun s => false || (rwPut false sx0 s && (true && bitsF 0 0 8 10 8 s))) := by
    refine (outW_step (dest := false) (l := smallL) (Fs := smallF v0 v1) (k := 0) (x := sx0) rfl rfl).trans ?_
    rw [small_rs v0 v1 rfl]
    rfl
  have h2 : outW false smallL (smallF v0 v1) 2 = (fun s => false || (rwPut false sx0 s && (true && bitsF 0 0 8 10 8 s))) := by
    exact (outW_skip (dest := false) (l := smallL) (Fs := smallF v0 v1) (k := 1) (x := ⟨true, ⟨#[103]⟩, 84281096, by omega⟩) rfl (by simp)).trans h1
  refine ⟨h1, h2, ?_⟩
  refine (outW_step (dest := false) (l := smallL) (Fs := smallF v0 v1) (k := 2) (x := sx2) rfl rfl).trans ?_
  rw [small_rg v0 v1 rfl, h2, (small_left v0 v1).2.1]
theorem wcB : WC (bitsF 0 0 8 10 8) 2 := WC.bits 0 8 10 (by omega)
theorem wcL : WC (fun s => true && !bitsF 0 0 8 10 8 s) 2 := (WC.const true).op2 (fun x y => x && !y) wcB
theorem wcO : WC (fun s => true && bitsF 0 0 8 10 8 s) 2 := (WC.const true).op2 (fun x y => x && y) wcB
theorem wcW0 : WC (fun s => rwPut false sx0 s && (true && bitsF 0 0 8 10 8 s)) 12 := (WC.put false sx0).op2 (fun x y => x && y) wcO
theorem wcW2 : WC (fun s => rwPut false sx2 s && ((true && !bitsF 0 0 8 10 8 s) && true)) 12 := (WC.put false sx2).op2 (fun x y => x && y) (wcL.op2 (fun x y => x && y) (WC.const true))
theorem wcO1 : WC (fun s => false || (rwPut false sx0 s && (true && bitsF 0 0 8 10 8 s))) 12 := (WC.const false).op2 (fun x y => x || y) wcW0
theorem wcO3 : WC (fun s => (false || (rwPut false sx0 s && (true && bitsF 0 0 8 10 8 s))) || (rwPut false sx2 s && ((true && !bitsF 0 0 8 10 8 s) && true))) 144 := wcO1.op2 (fun x y => x || y) wcW2
theorem small_step (v0 v1 : Value) (k : Nat) (x : RewV) (hx : smallL[k]? = some x) (hd : x.dest = false) : StepW false smallL (smallF v0 v1) 29952 1 k x := by
  have hk := (List.getElem?_eq_some_iff.1 hx).1
  have h3 : smallL.length = 3 := rfl
  obtain rfl | rfl | rfl : k = 0 ∨ k = 1 ∨ k = 2 := by omega
  · obtain rfl : x = sx0 := by injection hx with hx; exact hx.symm
    have e0 : leftW false smallL (smallF v0 v1) 0 = fun _ => true := rfl
    have e1 : outW false smallL (smallF v0 v1) 0 = fun _ => false := rfl
    have hn : namL (smallF v0 v1) sx0.nm = [tenR] := small_f v0 v1
    refine ⟨?_, ?_, ?_, ?_, ?_, ?_, ?_, ?_⟩
    · rw [hn]; exact filtE_3 (by simp) (by decide +kernel)
    · rw [hn]; exact one_filt ten_wc ten_F2 (by omega)
    · rw [hn]; exact one_sets rfl ten_F2 (by omega)
    · rw [hn]; exact Nat.le_refl 1
    · rw [e0, small_rs v0 v1 rfl]; exact wcO.wid (by omega)
    · rw [e0, small_rs v0 v1 rfl]; exact wcL.wid (by omega)
    · rw [e0, small_rs v0 v1 rfl]; exact wcW0.wid (by omega)
    · rw [e0, e1, small_rs v0 v1 rfl]; exact wcO1.wid (by omega)
  · exfalso
    have e : x.dest = true := by injection hx with hx; rw [← hx]
    rw [hd] at e
    cases e
  · obtain rfl : x = sx2 := by injection hx with hx; exact hx.symm
    have hn : namL (smallF v0 v1) sx2.nm = [openR] := small_g v0 v1
    have e2 := (small_left v0 v1).2.1
    have o2 := (small_out v0 v1).2.1
    refine ⟨?_, ?_, ?_, ?_, ?_, ?_, ?_, ?_⟩
    · rw [hn]; exact openR_filtE 1 (by omega)
    · rw [hn]; exact one_filt open_wc (open_F1.mono (by omega)) (by omega)
    · rw [hn]; exact one_sets rfl (open_F1.mono (by omega)) (by omega)
    · rw [hn]; exact Nat.le_refl 1
    · rw [e2, small_rg v0 v1 rfl]; exact (wcL.op2 (fun x y => x && y) (WC.const true)).wid (by omega)
    · rw [e2, small_rg v0 v1 rfl]; exact (wcL.op2 (fun x y => x && !y) (WC.const true)).wid (by omega)
    · rw [e2, small_rg v0 v1 rfl]; exact wcW2.wid (by omega)
    · rw [e2, o2, small_rg v0 v1 rfl]; exact wcO3.wid (by omega)
theorem small_keep (v0 v1 : Value) : Wid (fun s => sameF 0 0 104 s && leftW false smallL (smallF v0 v1) smallL.length s) 29952 := by
  show Wid (fun s => sameF 0 0 104 s && leftW false smallL (smallF v0 v1) 3 s) 29952
  rw [(small_left v0 v1).2.2]
  exact (WC.keep.op2 (fun x y => x && y) (wcL.op2 (fun x y => x && !y) (WC.const true))).wid (by omega)
theorem small_rel (v0 v1 : Value) : Wid (relW false smallL (smallF v0 v1)) 179712 := by
  show Wid (fun s => outW false smallL (smallF v0 v1) 3 s || (sameF 0 0 104 s && leftW false smallL (smallF v0 v1) 3 s)) 179712
  rw [(small_left v0 v1).2.2, (small_out v0 v1).2.2]
  exact (wcO3.op2 (fun x y => x || y) (WC.keep.op2 (fun x y => x && y) (wcL.op2 (fun x y => x && !y) (WC.const true)))).wid (by omega)
end Go.Proofs.YtdjikiakcfbklaaGreat

/-
  All variables of the bits, in a list.
-/
namespace Go.Proofs.YtdjikiakcfbklaaGreat
open Go Go.RowKit Go.ChangeMaps Go.MapKept Go.Maps Go.Lib Go.Sort

/-- The variables of the bits from 0 to n - 1. -/
def varsL (o n : Nat) : List Int := (List.range n).map fun i => ((2 * i + o : Nat) : Int)
theorem varsL_len (o n : Nat) : (varsL o n).length = n := by simp [varsL]
theorem varsL_snoc (o n : Nat) : varsL o (n + 1) = varsL o n ++ [((2 * n + o : Nat) : Int)] := by simp [varsL, List.range_succ]
theorem varsL_get (o n : Nat) {i : Nat} (h : i < n) : (varsL o n)[i]? = some ((2 * i + o : Nat) : Int) := by simp [varsL, h]
set_option maxRecDepth 100000 in
set_option maxHeartbeats 2000000 in
theorem all_any (w : World) {vf : FuncId} {o : Nat} (V : VarF vf o) :
    Calls Tryz.prog 53 #[.func (.func vf) #[] #[]] w fun e w' => ∃ v, e = .returned v ∧ w'.ownsRow w.heap.size 3 1 v 104 (icells (varsL o 104)) ∧ Below w.heap.size w w' := by
  have hen := V.en
  have HV := Lib.hid V
  obtain ⟨i0, hif, hz0, hz1, hz2⟩ := info_parts Tryz.infoInt
  clear V
  go_enter Tryz.func53, Tryz.ntmps53
  go_wp2
  go_loopw [3, 5] (fun r i wr => ∃ m : Nat, m ≤ 104 ∧ i = .int .i64 m ∧ Hid (wr.ownsRow w.heap.size 3 1 r m (icells (varsL o m))) ∧ Hid (Below w.heap.size w wr)) (fun _ i _ => 104 - (intOf i).toNat)
  case atStart => exact ⟨0, by omega, rfl, Lib.hid (World.ownsRow_nil _ _ _ _), Lib.hid (Below.refl _ _)⟩
  case round =>
    obtain ⟨m, hm, rfl, HO, HB⟩ := hrel
    by_cases hlt : m < 104
    · have hI : (m : Int) < 104 := by omega
      obtain ⟨x, hx⟩ : ∃ x, x = 2 * m + o := ⟨_, rfl⟩
      have HN := Lib.hid (show ∀ W, Calls Tryz.prog vf #[.int .i64 m] W (fun e w' => e = .returned (.int .i64 (x : Int)) ∧ w' = W) from fun W => by
        have := HV.out.calls m W (by omega)
        rw [← hx] at this
        exact this)
      have HX := Lib.hid hx
      have hbs := HB.out.size
      have hml : m ≤ 1099511627776 := by omega
      obtain ⟨Ar, cr, hr, _⟩ := owns_form HO.out
      subst hr
      clear hx
      go_upto_region 5 with fail
      go_wp2_with (first
        | ((with_reducible refine (HN.out _).mono ?_); rintro e _ ⟨rfl, rfl⟩)
        | (at_builtin; refine wpList_push2 (v := .slice Ar m cr) rfl _ _ 93 rfl 3 i0 _ 1 8 Tryz.underlying93 hif hz0 hz1 hz2 rfl (by decide) (by decide) [.int .i64 x] rfl rfl rfl HO.out rfl (one_i64 _) hml hbs ?_; intro v2 w2 hown2 hg2 hmv2; have HO2 := Lib.hid hown2; have HB2 := Lib.hid (below_grown HB.out hbs hg2 (fun g hg => (HO.out.lt g hg).1)); clear hown2 hg2 hmv2))
      exact ⟨⟨m + 1, by omega, by go_num, Lib.hid (by rw [varsL_snoc, ← HX.out]; simpa [icells] using HO2.out), HB2⟩, by simp only [intOf]; omega⟩
    · obtain rfl : m = 104 := by omega
      have hI : ¬ ((104 : Nat) : Int) < 104 := by omega
      go_wp2
      go_ret
      exact ⟨_, rfl, HO.out, HB.out⟩
end Go.Proofs.YtdjikiakcfbklaaGreat

/-
  Numbers in their one form (plain; no program in sight): what the program's 'number' and the document's 'Read' read.
-/
namespace Go.Proofs.YtdjikiakcfbklaaGreat
open Go

def isDig (c : UInt8) : Bool := decide (48 ≤ c.toNat) && decide (c.toNat ≤ 57)
def valD (acc : Nat) (l : List UInt8) : Nat := l.foldl (fun n c => 10 * n + (c.toNat - 48)) acc
/-- The number of a text in its one form, at most m. -/
def readB (l : List UInt8) (m : Nat) : Option Nat :=
  if l = [] ∨ (1 < l.length ∧ l.head? = some 48) ∨ l.all isDig = false then none else if valD 0 l ≤ m then some (valD 0 l) else none

theorem valD_append (acc : Nat) (l r : List UInt8) : valD acc (l ++ r) = valD (valD acc l) r := by simp [valD]
theorem dig_of (k : Nat) (h : k < 10) : isDig (UInt8.ofNat (48 + k)) = true ∧ (UInt8.ofNat (48 + k)).toNat - 48 = k := by
  have e : (UInt8.ofNat (48 + k)).toNat = 48 + k := by simp; omega
  unfold isDig
  rw [e]
  exact ⟨by simp; omega, by omega⟩
theorem of_dig (c : UInt8) (h : isDig c = true) : c = UInt8.ofNat (48 + (c.toNat - 48)) ∧ c.toNat - 48 < 10 := by
  unfold isDig at h
  simp at h
  refine ⟨?_, by omega⟩
  apply UInt8.toNat_inj.1
  simp
  omega
theorem decDigits_small {n : Nat} (h : n < 10) : Lib.decDigits n = [UInt8.ofNat (48 + n)] := Lib.decDigits_one h
theorem decDigits_big {n : Nat} (h : ¬ n < 10) : Lib.decDigits n = Lib.decDigits (n / 10) ++ [UInt8.ofNat (48 + n % 10)] := by rw [Lib.decDigits, dif_neg h]
theorem decDigits_ne_nil (n : Nat) : Lib.decDigits n ≠ [] := by
  by_cases h : n < 10
  · rw [decDigits_small h]; simp
  · rw [decDigits_big h]; simp
theorem decDigits_facts : ∀ (k n : Nat), n ≤ k → (Lib.decDigits n).all isDig = true ∧ valD 0 (Lib.decDigits n) = n ∧ (0 < n → (Lib.decDigits n).head? ≠ some 48) := by
  intro k
  induction k with
  | zero =>
    intro n hn
    obtain rfl : n = 0 := by omega
    rw [decDigits_small (by omega)]
    exact ⟨by decide, by decide, fun h => absurd h (by omega)⟩
  | succ k ih =>
    intro n hn
    by_cases h : n < 10
    · rw [decDigits_small h]
      obtain ⟨a, b⟩ := dig_of n h
      generalize UInt8.ofNat (48 + n) = x at a b
      refine ⟨by simp [a], by simp [valD, b], fun h0 => ?_⟩
      intro e
      simp at e
      subst e
      have : (48 : UInt8).toNat - 48 = 0 := by decide
      omega
    · rw [decDigits_big h]
      obtain ⟨a, b, c⟩ := ih (n / 10) (by omega)
      obtain ⟨d, e⟩ := dig_of (n % 10) (by omega)
      generalize UInt8.ofNat (48 + n % 10) = x at d e
      refine ⟨by rw [List.all_append, a]; simp [d], ?_, fun _ => ?_⟩
      · rw [valD_append, b]
        simp only [valD, List.foldl_cons, List.foldl_nil, e]
        omega
      · rw [List.head?_append]
        cases hh : (Lib.decDigits (n / 10)).head? with
        | none => exact absurd (List.head?_eq_none_iff.1 hh) (decDigits_ne_nil _)
        | some x =>
          have := c (by omega)
          rw [hh] at this
          simpa using this
theorem decDigits_all (n : Nat) : (Lib.decDigits n).all isDig = true := (decDigits_facts n n (Nat.le_refl _)).1
theorem decDigits_val (n : Nat) : valD 0 (Lib.decDigits n) = n := (decDigits_facts n n (Nat.le_refl _)).2.1
theorem decDigits_head (n : Nat) (h : 0 < n) : (Lib.decDigits n).head? ≠ some 48 := (decDigits_facts n n (Nat.le_refl _)).2.2 h
theorem decDigits_inj {m n : Nat} (h : Lib.decDigits m = Lib.decDigits n) : m = n := by rw [← decDigits_val m, h, decDigits_val]
theorem decDigits_len (n : Nat) (h : 1 < (Lib.decDigits n).length) : 0 < n := by
  rcases Nat.eq_zero_or_pos n with rfl | h0
  · rw [decDigits_small (by omega)] at h; simp at h
  · exact h0
/-- A text of digits, the first not 0 (or alone), is its number's numeral. -/
theorem decDigits_of : ∀ (k : Nat) (l : List UInt8), l.length ≤ k → l ≠ [] → ¬ (1 < l.length ∧ l.head? = some 48) → l.all isDig = true → Lib.decDigits (valD 0 l) = l := by
  intro k
  induction k with
  | zero => intro l hl hne; exact absurd (List.length_eq_zero_iff.1 (by omega)) hne
  | succ k ih =>
    intro l hl hne hz hall
    obtain ⟨r, c, rfl⟩ : ∃ r c, l = r ++ [c] := ⟨l.dropLast, l.getLast hne, (List.dropLast_concat_getLast hne).symm⟩
    have hc : isDig c = true := by simp at hall; exact hall.2
    have hr : r.all isDig = true := by simp at hall ⊢; exact hall.1
    obtain ⟨e1, e2⟩ := of_dig c hc
    have ev : valD 0 (r ++ [c]) = 10 * valD 0 r + (c.toNat - 48) := by rw [valD_append]; rfl
    by_cases hrn : r = []
    · subst hrn
      rw [ev]
      have : valD 0 [] = 0 := rfl
      rw [this, decDigits_small (by omega), Nat.mul_zero, Nat.zero_add, ← e1]
      rfl
    · have hr0 : r.head? ≠ some 48 := by
        intro h0
        apply hz
        refine ⟨?_, by rw [List.head?_append, h0]; rfl⟩
        have := List.length_pos_iff.2 hrn
        simp; omega
      have hi := ih r (by simp at hl; omega) hrn (fun h => hr0 h.2) hr
      have hp : 0 < valD 0 r := by
        rcases Nat.eq_zero_or_pos (valD 0 r) with h0 | h0
        · exfalso
          rw [h0, decDigits_small (by omega)] at hi
          exact hr0 (by rw [← hi]; rfl)
        · exact h0
      rw [decDigits_big (by rw [ev]; omega)]
      have d1 : valD 0 (r ++ [c]) / 10 = valD 0 r := by rw [ev]; omega
      have d2 : valD 0 (r ++ [c]) % 10 = c.toNat - 48 := by rw [ev]; omega
      rw [d1, d2, hi, ← e1]
theorem readB_some {l : List UInt8} {m n : Nat} : readB l m = some n ↔ Lib.decDigits n = l ∧ n ≤ m := by
  unfold readB
  constructor
  · intro h
    split at h
    · cases h
    · rename_i hn
      split at h
      · rename_i hm
        injection h with h
        subst h
        have h1 : l ≠ [] := fun e => hn (Or.inl e)
        have h2 : ¬ (1 < l.length ∧ l.head? = some 48) := fun e => hn (Or.inr (Or.inl e))
        have h3 : l.all isDig = true := by
          cases e : l.all isDig
          · exact absurd (Or.inr (Or.inr e)) hn
          · rfl
        exact ⟨decDigits_of _ l (Nat.le_refl _) h1 h2 h3, hm⟩
      · cases h
  · rintro ⟨rfl, hm⟩
    rw [if_neg, decDigits_val, if_pos hm]
    rintro (h | h | h)
    · exact decDigits_ne_nil _ h
    · exact decDigits_head n (decDigits_len n h.1) h.2
    · rw [decDigits_all] at h; cases h
theorem readB_le {l : List UInt8} {m n : Nat} (h : readB l m = some n) : n ≤ m := (readB_some.1 h).2

theorem valD_ge : ∀ (l : List UInt8) (acc : Nat), acc ≤ valD acc l
  | [], acc => Nat.le_refl _
  | c :: r, acc => Nat.le_trans (by omega) (valD_ge r (10 * acc + (c.toNat - 48)))
theorem parse_digits : ∀ (l : List UInt8) (acc : Nat), l.all isDig = true → valD acc l < 18446744073709551616 → Lib.parseUint10 acc l = .ok (valD acc l)
  | [], acc, _, _ => rfl
  | c :: r, acc, h, hv => by
    simp only [List.all_cons, Bool.and_eq_true] at h
    have hc := h.1
    unfold isDig at hc
    simp at hc
    have e : valD acc (c :: r) = valD (10 * acc + (c.toNat - 48)) r := rfl
    have hg := valD_ge r (10 * acc + (c.toNat - 48))
    rw [e] at hv
    unfold Lib.parseUint10
    rw [if_pos (by omega), if_neg (by omega), if_neg (by omega), e, show acc * 10 + (c.toNat - 48) = 10 * acc + (c.toNat - 48) by omega]
    exact parse_digits r _ h.2 hv
theorem atoi_digits (n : Nat) (h : n < 9223372036854775808) : Lib.atoiAll (Lib.decDigits n) = .ok (n : Int) := by
  have hp : Lib.parseMag (Lib.decDigits n) = .ok n := by
    unfold Lib.parseMag
    rw [if_neg (decDigits_ne_nil n), parse_digits _ _ (decDigits_all n) (by rw [decDigits_val]; omega), decDigits_val]
  cases e : Lib.decDigits n with
  | nil => exact absurd e (decDigits_ne_nil n)
  | cons c r =>
    have hall := decDigits_all n
    rw [e] at hall hp
    simp only [List.all_cons, Bool.and_eq_true] at hall
    have hc := hall.1
    unfold isDig at hc
    simp at hc
    rw [Lib.atoiAll_plain c r (by omega) (by omega), hp]
    unfold Lib.signless
    simp
    omega
theorem readB_atoi {l : List UInt8} {m n : Nat} (hm : m < 9223372036854775808) (h : readB l m = some n) : Lib.atoiAll l = .ok (n : Int) := by
  obtain ⟨rfl, hn⟩ := readB_some.1 h
  exact atoi_digits n (by omega)
theorem readB_no {l : List UInt8} {m : Nat} (hm : m < 9223372036854775808) (h : ∀ v, Lib.atoiAll l ≠ .ok v) : readB l m = none := by
  cases e : readB l m with
  | none => rfl
  | some n => exact absurd (readB_atoi hm e) (h _)
theorem readB_neg {l : List UInt8} {m : Nat} {v : Int} (hm : m < 9223372036854775808) (ha : Lib.atoiAll l = .ok v) (h : ¬ (0 ≤ v ∧ v ≤ m ∧ Lib.decDigits v.toNat = l)) : readB l m = none := by
  cases e : readB l m with
  | none => rfl
  | some n =>
    have := readB_atoi hm e
    rw [ha] at this
    injection this with this
    subst this
    have := readB_some.1 e
    exact absurd ⟨by omega, by omega, by simpa using this.1⟩ h
theorem readB_yes {l : List UInt8} {m : Nat} {v : Int} (h0 : 0 ≤ v) (h1 : v ≤ m) (h : Lib.decDigits v.toNat = l) : readB l m = some v.toNat := readB_some.2 ⟨h, by omega⟩

/-- A text cut at each byte c. -/
def pieces (c : UInt8) : List UInt8 → List (List UInt8)
  | [] => [[]]
  | x :: r => if x = c then [] :: pieces c r else (x :: (pieces c r).headD []) :: (pieces c r).tail
theorem pieces_ne (c : UInt8) (l : List UInt8) : pieces c l ≠ [] := by cases l <;> simp [pieces]; split <;> simp
theorem index_one (c x : UInt8) (r : List UInt8) : Lib.index (x :: r) [c] = if x = c then 0 else if Lib.index r [c] = -1 then -1 else Lib.index r [c] + 1 := by
  rw [Lib.index]
  have e : [c].isPrefixOf (x :: r) = (c == x) := by simp [List.isPrefixOf]
  rw [e]
  by_cases h : x = c
  · simp [h]
  · have : (c == x) = false := by simp; exact fun e => h e.symm
    simp [this, h]
theorem pieces_miss (c : UInt8) : ∀ (l : List UInt8), Lib.index l [c] = -1 → pieces c l = [l]
  | [], _ => rfl
  | x :: r, h => by
    rw [index_one] at h
    have hg := Lib.index_ge r [c]
    split at h
    · omega
    · rename_i hx
      split at h
      · rename_i hr
        rw [pieces, if_neg hx, pieces_miss c r hr]
        rfl
      · omega
theorem pieces_hit (c : UInt8) : ∀ (l : List UInt8) (i : Nat), Lib.index l [c] = i → pieces c l = l.take i :: pieces c (l.drop (i + 1))
  | [], i, h => by simp [Lib.index] at h
  | x :: r, i, h => by
    rw [index_one] at h
    have hg := Lib.index_ge r [c]
    split at h
    · rename_i hx
      obtain rfl : i = 0 := by omega
      rw [pieces, if_pos hx]
      rfl
    · rename_i hx
      split at h
      · omega
      · obtain ⟨j, rfl⟩ : ∃ j, i = j + 1 := ⟨i - 1, by omega⟩
        rw [pieces, if_neg hx, pieces_hit c r j (by omega)]
        rfl
theorem split_pieces (c : UInt8) : ∀ (k : Nat) (s : List UInt8), s.length ≤ k → Lib.splitK [c] 0 (Lib.count s [c]) s = pieces c s := by
  intro k
  induction k with
  | zero =>
    intro s hs
    obtain rfl := List.length_eq_zero_iff.1 (Nat.le_zero.1 hs)
    rfl
  | succ k ih =>
    intro s hs
    rcases Lib.index_spec s [c] with ⟨h1, _⟩ | ⟨i, h1, h2, _, _⟩
    · rw [Lib.count_miss h1, pieces_miss c s h1]
      rfl
    · have hroom := Lib.index_room s [c] (by omega)
      simp at hroom
      rw [Lib.count_hit (by simp) h1, pieces_hit c s i h1, Nat.add_comm 1, Lib.splitK, if_neg (by rw [h1]; simp), h1]
      simp only [Int.toNat_natCast, Nat.add_zero, List.length_cons, List.length_nil, Nat.zero_add]
      rw [ih (s.drop (i + 1)) (by simp; omega)]
theorem splitB_pieces (c : UInt8) (s : ByteArray) : (Lib.splitB ⟨#[c]⟩ 0 (Lib.countB s ⟨#[c]⟩) s).map (·.data.toList) = pieces c s.data.toList := by
  rw [Lib.splitB_data]
  exact split_pieces c _ _ (Nat.le_refl _)
theorem countB_pieces (c : UInt8) (s : ByteArray) : Lib.countB s ⟨#[c]⟩ + 1 = (pieces c s.data.toList).length := by
  have h := Lib.splitB_all ⟨#[c]⟩ (Nat.le_refl 1) 0 _ s rfl
  rw [← splitB_pieces, List.length_map, h]

theorem pieces_len (c : UInt8) : ∀ (l p : List UInt8), p ∈ pieces c l → p.length ≤ l.length
  | [], p, h => by simp [pieces] at h; subst h; simp
  | x :: r, p, h => by
    rw [pieces] at h
    split at h
    · rcases List.mem_cons.1 h with rfl | h
      · simp
      · have := pieces_len c r p h; simp; omega
    · rcases List.mem_cons.1 h with rfl | h
      · have hne := pieces_ne c r
        cases hp : pieces c r with
        | nil => exact absurd hp hne
        | cons y ys =>
          have := pieces_len c r y (by rw [hp]; simp)
          simp; omega
      · have := pieces_len c r p (List.mem_of_mem_tail h); simp; omega
/-- The address of a text. -/
def parseB (l : List UInt8) : Option Nat :=
  match pieces 46 l with
  | [a, b, c, d] =>
    match readB a 255, readB b 255, readB c 255, readB d 255 with
    | some a, some b, some c, some d => some (((a * 256 + b) * 256 + c) * 256 + d)
    | _, _, _, _ => none
  | _ => none
theorem parseB_lt {l : List UInt8} {n : Nat} (h : parseB l = some n) : n < 4294967296 := by
  unfold parseB at h
  split at h
  · split at h
    · rename_i h1 h2 h3 h4
      have := readB_le h1; have := readB_le h2; have := readB_le h3; have := readB_le h4
      injection h with h
      omega
    · cases h
  · cases h
example : parseB [49, 48, 46, 49, 46, 50, 46, 51] = some 0x0A010203 := by decide
example : Lib.cut [49, 48, 46, 48, 46, 48, 46, 48, 47, 56] [47] = ([49, 48, 46, 48, 46, 48, 46, 48], [56], true) := by decide
/-- An address's text. -/
def textB (a : Nat) : List UInt8 := Lib.join [Lib.decDigits (a / 16777216 % 256), Lib.decDigits (a / 65536 % 256), Lib.decDigits (a / 256 % 256), Lib.decDigits (a % 256)] [46]
end Go.Proofs.YtdjikiakcfbklaaGreat

/-
  Walks over the addresses' texts: what the library's tables and errors are asked for; number.
-/
namespace Go.Proofs.YtdjikiakcfbklaaGreat
open Go Go.RowKit Go.Sort

theorem below_of_atoi {w w' : World} {t : TypeId} (h : w' = w ∨ ∃ s, w' = Lib.bytesWorld w t s) : Below w.heap.size w w' := by
  rcases h with rfl | ⟨s, rfl⟩
  · exact Below.refl _ _
  · exact Lib.bytesWorld_below _ _ _
theorem below_of_grow {w w' : World} (h : ∃ k os, w' = grow (w.drewN k) os) : Below w.heap.size w w' := by
  obtain ⟨q, os, rfl⟩ := h
  refine ⟨rfl, rfl, rfl, by simp [grow, World.drewN], fun i hi => ?_⟩
  show ((w.heap ++ os)[i]?) = w.heap[i]?
  rw [Array.getElem?_append_left hi]
theorem str_mk (s : ByteArray) : (⟨s.data.toList.toArray⟩ : ByteArray) = s := by cases s; rfl
theorem list_of (s : ByteArray) : s.toList = s.data.toList := Go.ByteArray.toList_eq s

/-- The address's numbers so far. -/
def accB (p : List (List UInt8)) : Nat → Option Nat
  | 0 => some 0
  | k + 1 => match accB p k, (p[k]?).bind (readB · 255) with
    | some a, some n => some (a * 256 + n)
    | _, _ => none
theorem accB_step {p : List (List UInt8)} {k a n : Nat} {l : List UInt8} (h : accB p k = some a) (hl : p[k]? = some l) (hn : readB l 255 = some n) : accB p (k + 1) = some (a * 256 + n) := by
  rw [accB, h, hl, Option.bind_some, hn]
theorem accB_lt {p : List (List UInt8)} : ∀ {k a : Nat}, accB p k = some a → k ≤ 4 → a < 256 ^ k
  | 0, a, h, _ => by injection h with h; omega
  | k + 1, a, h, hk => by
    rw [accB] at h
    split at h
    · rename_i b n h1 h2
      obtain ⟨l, hl, h3⟩ := Option.bind_eq_some_iff.1 h2
      have := accB_lt h1 (by omega)
      have := readB_le h3
      injection h with h
      rw [Nat.pow_succ]
      omega
    · cases h
theorem parseB_four {l : List UInt8} (h : (pieces 46 l).length = 4) : parseB l = accB (pieces 46 l) 4 := by
  unfold parseB
  match hp : pieces 46 l, h with
  | [a, b, c, d], _ =>
    simp only [accB, List.getElem?_cons_zero, List.getElem?_cons_succ, Option.bind_some]
    cases readB a 255 <;> cases readB b 255 <;> cases readB c 255 <;> cases readB d 255 <;> simp
theorem parseB_not {l : List UInt8} (h : (pieces 46 l).length ≠ 4) : parseB l = none := by
  unfold parseB
  split
  · rename_i hp; rw [hp] at h; exact absurd rfl h
  · rfl
theorem accB_none {p : List (List UInt8)} {k : Nat} {l : List UInt8} (hl : p[k]? = some l) (hn : readB l 255 = none) : ∀ j, k < j → accB p j = none
  | 0, h => by omega
  | j + 1, h => by
    rw [accB]
    rcases (show k = j ∨ k < j by omega) with rfl | h1
    · rw [hl, Option.bind_some, hn]
      cases accB p k <;> rfl
    · rw [accB_none hl hn j h1]
/-- What Parse hands back. -/
def adE (o : Option Nat) : Int := if o.isSome then 0 else 4
def adV (o : Option Nat) : Int := ((o.getD 0 : Nat) : Int)
end Go.Proofs.YtdjikiakcfbklaaGreat
