/-
  Joined texts: Fr5, Fr6, Fr7, Fr8, Rh4, Rh5, LawRlNm.
-/
import Derived.Test.YtcchiagclhkieaaMRelNames13
import Derived.Deep.DeepCutAuto
import Derived.Test.YtcchiagclhkieaaMRelNames4
import Derived.Test.YtcchiagclhkieaaMRelNames6
import Derived.Test.YtcchiagclhkieaaMRelNames5
/-
  The sets for which each rule of a filter decides (written by wip/gen/genfr5.py).
-/
namespace Go.Proofs.Ytcchiagclhkieaa
open Go Go.RowKit Go.ChangeMaps Go.MapKept Go.Maps Go.Lib Go.Sort

/-- What Rules comes to: a node for each rule, or no room. -/
def RulesRes (w : World) (B S km : Nat) (A : Blks) (Mo : Nat) (σ : Sg) (L : List RuleV) (k : Nat) (e : Ending) (w' : World) : Prop :=
  KeptS A km w w' ∧ ((e = .returned (.tuple #[.slice none 0 0, .int .i64 3]) ∧ Mo < σ.H.length + k ∧ ∃ τ, SpOk w' B S km A Mo τ ∧ To k k σ τ) ∨
    ∃ (v : Value) (ns : List Nat) (τ : Sg), e = .returned (.tuple #[v, .int .i64 0]) ∧ SpOk w' B S km A Mo τ ∧ To k k σ τ ∧ ns.length = L.length ∧ (∀ i n, ns[i]? = some n → Den τ n (decF L i)) ∧ w'.ownsRow w.heap.size 3 1 v ns.length (ncl ns) ∧ OwnF A km S w' v)
theorem RulesRes.full {w w' : World} {B S km : Nat} {A : Blks} {Mo : Nat} {σ τ : Sg} {L : List RuleV} {k : Nat} {e : Ending} (hk : KeptS A km w w') (h1 : e = .returned (.tuple #[.slice none 0 0, .int .i64 3])) (h2 : Mo < σ.H.length + k) (h3 : SpOk w' B S km A Mo τ) (h4 : To k k σ τ) : RulesRes w B S km A Mo σ L k e w' := ⟨hk, .inl ⟨h1, h2, τ, h3, h4⟩⟩
/-- How much a filter's diagrams may take, rule by rule. -/
def FiltW (L : List RuleV) (K : Nat) : Prop := ∀ (k : Nat) (r : RuleV), L[k]? = some r → (∀ j, j ≤ 5 → Wid (ruleK r j) K) ∧ Wid (decF L k) K ∧ Wid (leftF L (k + 1)) K
theorem rule_may {L : List RuleV} (he : filtE L = 0) : L.length ≤ 256 ∧ ∀ (k : Nat) (r : RuleV), L[k]? = some r → RuleOk r := by
  unfold filtE at he
  split at he
  · cases he
  · split at he
    · cases he
    · rename_i h1 h2
      refine ⟨by omega, fun k r hr => RuleOk.of ?_⟩
      simp only [List.any_eq_true, not_exists, not_and, Bool.not_eq_true'] at h2
      have := h2 r (List.mem_of_getElem? hr)
      simpa using this
theorem den_snoc {τ : Sg} {ns : List Nat} {F : Nat → Fun} {k n : Nat} (h : ∀ i m, ns[i]? = some m → Den τ m (F i)) (hk : ns.length = k) (hd : Den τ n (F k)) : ∀ i m, (ns ++ [n])[i]? = some m → Den τ m (F i) := fun i m hi => by
  rcases Nat.lt_or_ge i ns.length with h1 | h1
  · rw [List.getElem?_append_left h1] at hi
    exact h i m hi
  · rw [List.getElem?_append_right h1] at hi
    have h2 : i = ns.length := by
      have := (List.getElem?_eq_some_iff.1 hi).1
      simp at this
      omega
    subst h2
    rw [Nat.sub_self] at hi
    simp at hi
    subst hi
    rw [hk]
    exact hd
theorem rulesEq_pred (y : RuleV) (bx : Nat) (w : World) (hb : w.heap[bx]? = some (.cells #[.bool y.permit, .int .i64 y.proto, .int .u32 y.sa, .int .i64 y.sn, .int .u32 y.da, .int .i64 y.dn, .int .u32 y.sl, .int .u32 y.sh, .int .u32 y.dl, .int .u32 y.dh] 47 (0, 0))) : PredBelow Try.prog 30 #[.pointer (some ⟨bx, 0, none⟩)] (fun x : RuleV => .agg x.enc.toArray) (fun x => sameR x y) w := fun W x hW =>
  (rulesEq_any x y bx W (blk_below hW hb)).mono fun _ _ ⟨he, hb'⟩ => ⟨he, hW.trans (hb'.mono hW.size)⟩
theorem Try.infoRule : (Try.prog.info? 47).map (fun i => (i.zero, i.size, i.bytes)) = some (some (.agg #[.bool false, .int .i64 0, .int .u32 0, .int .i64 0, .int .u32 0, .int .i64 0, .int .u32 0, .int .u32 0, .int .u32 0, .int .u32 0]), 10, 64) := by kernel_rfl
section
variable {w : World} {B S km : Nat} {A : Blks} {Mo : Nat} {σ : Sg}
set_option maxRecDepth 100000
set_option maxHeartbeats 8000000
theorem rules_yes (h : SpOk w B S km A Mo σ) (nm : ByteArray) (L : List RuleV) (vL : Value) (hL : RdF A km w 10 vL L.length (rcells L)) (he : filtE L = 0) (K : Nat) (hK : FiltW L K) (hl : σ.N.length + L.length * (6080 + 7 * K) ≤ 2147483647) :
    Calls Try.prog 12 #[.pointer (some ⟨S, 0, none⟩), .agg #[.string nm, vL]] w (RulesRes w B S km A Mo σ L (L.length * (6080 + 7 * K))) := by
  obtain ⟨hlen, hmay⟩ := rule_may he
  obtain ⟨i0, hif, hz0, hz1, hz2⟩ := info_parts Try.infoInt
  obtain ⟨j0, jif, jz0, jz1, jz2⟩ := info_parts Try.infoRule
  obtain ⟨PL, cL, rfl, _⟩ := hL.rd.form
  have hbw := below1 w (.cells #[.string nm, .slice PL L.length cL] 51)
  have hbk := blk1 w (.cells #[.string nm, .slice PL L.length cL] 51)
  have HL := Lib.hid (hL.kept (h.kept hbw))
  have HS := Lib.hid (h.below hbw)
  have HK0 := Lib.hid (h.kept hbw)
  have HB0 := Lib.hid hbw
  have HBK := Lib.hid hbk
  have HWK := Lib.hid hK
  have HMAY := Lib.hid hmay
  have b0 : (w.alloc (.cells #[.string nm, .slice PL L.length cL] 51)).cell? ⟨w.heap.size, 0, none⟩ = some (.string nm) := cell_of_row _ _ 0 _ _ (0, 0) hbk
  have b1 : (w.alloc (.cells #[.string nm, .slice PL L.length cL] 51)).cell? ⟨w.heap.size, 1, none⟩ = some (.slice PL L.length cL) := cell_of_row _ _ 1 _ _ (0, 0) hbk
  have hck := filtCheck_any nm L _ _ HL.out.rd
  rw [he] at hck
  have HCK := Lib.hid hck
  clear h hL he hbw hbk hK hmay hck
  go_enter Try.func12, Try.ntmps12
  go_upto_region 1 with fail
  generalize w.alloc (.cells #[.string nm, .slice PL L.length cL] 51) = w0 at *
  go_upto_region 6 with ((with_reducible refine HCK.out.mono ?_); rintro e w2 ⟨rfl, hb2⟩; have HB2 := Lib.hid hb2; clear hb2)
  have HS2 := Lib.hid (HS.out.below HB2.out)
  have HK2 := Lib.hid (HK0.out.trans (HS.out.kept HB2.out))
  have HL2 := Lib.hid (HL.out.kept (HS.out.kept HB2.out))
  have HSZ : Hid (w.heap.size ≤ w2.heap.size) := Lib.hid (Nat.le_trans HB0.out.size HB2.out.size)
  have d1 : w2.cell? ⟨w.heap.size, 1, none⟩ = some (.slice PL L.length cL) := cell_of_row _ _ 1 _ _ (0, 0) (blk_below HB2.out HBK.out)
  clear b0 b1 HCK HB2 HS HL HK0 HBK HB0
  go_wp2
  go_loopw [7, 8, 9, 26] (fun q ov sv i wr => ∃ k : Nat, i = .int .i64 k ∧ k ≤ L.length ∧ ∃ (n : Nat) (τ : Sg) (ns : List Nat) (D : List RuleV), q = .int .i64 n ∧ Hid (RuSt w2 wr B S km A Mo τ ov ns sv D) ∧ Hid (ns.length = k) ∧ Hid (To (k * (6080 + 7 * K)) (k * (6080 + 7 * K)) σ τ) ∧ Hid (Den τ n (leftF L k)) ∧ Hid (∀ i m, ns[i]? = some m → Den τ m (decF L i)) ∧ Hid (D.length ≤ k ∧ ∀ d ∈ D, ∃ j x, j < k ∧ L[j]? = some x ∧ ruleF d = ruleF x)) (fun _ _ _ i _ => L.length - (intOf i).toNat)
  case atStart => exact ⟨0, rfl, by omega, 1, σ, [], [], rfl, Lib.hid (RuSt.start HS2.out), Lib.hid rfl, Lib.hid (by rw [Nat.zero_mul]; exact To.refl σ), Lib.hid (Den.one HS2.out.ok), Lib.hid (by simp), Lib.hid ⟨by simp, by simp⟩⟩
  case round =>
    obtain ⟨k, rfl, hk, n, τ, ns, D, rfl, HR, HNS, HT, HD, HDS, HDD⟩ := hrel
    obtain ⟨Ao, co, hove, _⟩ := owns_form HR.out.out
    obtain ⟨As, cs, hsve, _⟩ := owns_form HR.out.seen
    subst hove hsve
    by_cases hlt : k < L.length
    · have hI : (k : Int) < (L.length : Int) := by omega
      obtain ⟨r, hr⟩ : ∃ r, L[k]? = some r := ⟨_, List.getElem?_eq_getElem hlt⟩
      obtain ⟨P', c', hv', _, _, hcell⟩ := HL2.out.kept HR.out.kept
      injection hv' with hP hlq hcq
      subst hP hcq
      clear hlq
      obtain ⟨bL, off, rfl, _, _, hcell⟩ := hcell (by omega)
      have r0 : wr.cell? ⟨bL, off + k * 10, none⟩ = some (.bool r.permit) := hcell (k * 10) _ (rcell (i := 0) hr rfl)
      have r1 : wr.cell? ⟨bL, off + k * 10 + 1, none⟩ = some (.int .i64 r.proto) := by have := hcell (k * 10 + 1) _ (rcell (i := 1) hr rfl); rwa [← Nat.add_assoc] at this
      have r2 : wr.cell? ⟨bL, off + k * 10 + 2, none⟩ = some (.int .u32 r.sa) := by have := hcell (k * 10 + 2) _ (rcell (i := 2) hr rfl); rwa [← Nat.add_assoc] at this
      have r3 : wr.cell? ⟨bL, off + k * 10 + 3, none⟩ = some (.int .i64 r.sn) := by have := hcell (k * 10 + 3) _ (rcell (i := 3) hr rfl); rwa [← Nat.add_assoc] at this
      have r4 : wr.cell? ⟨bL, off + k * 10 + 4, none⟩ = some (.int .u32 r.da) := by have := hcell (k * 10 + 4) _ (rcell (i := 4) hr rfl); rwa [← Nat.add_assoc] at this
      have r5 : wr.cell? ⟨bL, off + k * 10 + 5, none⟩ = some (.int .i64 r.dn) := by have := hcell (k * 10 + 5) _ (rcell (i := 5) hr rfl); rwa [← Nat.add_assoc] at this
      have r6 : wr.cell? ⟨bL, off + k * 10 + 6, none⟩ = some (.int .u32 r.sl) := by have := hcell (k * 10 + 6) _ (rcell (i := 6) hr rfl); rwa [← Nat.add_assoc] at this
      have r7 : wr.cell? ⟨bL, off + k * 10 + 7, none⟩ = some (.int .u32 r.sh) := by have := hcell (k * 10 + 7) _ (rcell (i := 7) hr rfl); rwa [← Nat.add_assoc] at this
      have r8 : wr.cell? ⟨bL, off + k * 10 + 8, none⟩ = some (.int .u32 r.dl) := by have := hcell (k * 10 + 8) _ (rcell (i := 8) hr rfl); rwa [← Nat.add_assoc] at this
      have r9 : wr.cell? ⟨bL, off + k * 10 + 9, none⟩ = some (.int .u32 r.dh) := by have := hcell (k * 10 + 9) _ (rcell (i := 9) hr rfl); rwa [← Nat.add_assoc] at this
      have HRR := Lib.hid hr
      have hok := HMAY.out k r hr
      have hwk := HWK.out k r hr
      have HOK := Lib.hid (And.intro hok hwk)
      have hm1 : (k + 1) * (6080 + 7 * K) ≤ L.length * (6080 + 7 * K) := Nat.mul_le_mul_right _ hlt
      have hm2 : (k + 1) * (6080 + 7 * K) = k * (6080 + 7 * K) + (6080 + 7 * K) := by rw [Nat.add_mul, Nat.one_mul]
      have HM := Lib.hid (And.intro hm1 hm2)
      clear hcell hr hok hwk hm1 hm2
      go_upto_region 13 with fail
      have hb3 := below2 wr (.cells #[.bool r.permit, .int .i64 r.proto, .int .u32 r.sa, .int .i64 r.sn, .int .u32 r.da, .int .i64 r.dn, .int .u32 r.sl, .int .u32 r.sh, .int .u32 r.dl, .int .u32 r.dh] 47) (.cells #[.bool r.permit, .int .i64 r.proto, .int .u32 r.sa, .int .i64 r.sn, .int .u32 r.da, .int .i64 r.dn, .int .u32 r.sl, .int .u32 r.sh, .int .u32 r.dl, .int .u32 r.dh] 47)
      have hs3 : (wr.alloc (.cells #[.bool r.permit, .int .i64 r.proto, .int .u32 r.sa, .int .i64 r.sn, .int .u32 r.da, .int .i64 r.dn, .int .u32 r.sl, .int .u32 r.sh, .int .u32 r.dl, .int .u32 r.dh] 47)).heap.size = wr.heap.size + 1 := by simp
      have ka := blk_below (below1 (wr.alloc (.cells #[.bool r.permit, .int .i64 r.proto, .int .u32 r.sa, .int .i64 r.sn, .int .u32 r.da, .int .i64 r.dn, .int .u32 r.sl, .int .u32 r.sh, .int .u32 r.dl, .int .u32 r.dh] 47)) (.cells #[.bool r.permit, .int .i64 r.proto, .int .u32 r.sa, .int .i64 r.sn, .int .u32 r.da, .int .i64 r.dn, .int .u32 r.sl, .int .u32 r.sh, .int .u32 r.dl, .int .u32 r.dh] 47)) (blk1 wr (.cells #[.bool r.permit, .int .i64 r.proto, .int .u32 r.sa, .int .i64 r.sn, .int .u32 r.da, .int .i64 r.dn, .int .u32 r.sl, .int .u32 r.sh, .int .u32 r.dl, .int .u32 r.dh] 47))
      have kb := blk1 (wr.alloc (.cells #[.bool r.permit, .int .i64 r.proto, .int .u32 r.sa, .int .i64 r.sn, .int .u32 r.da, .int .i64 r.dn, .int .u32 r.sl, .int .u32 r.sh, .int .u32 r.dl, .int .u32 r.dh] 47)) (.cells #[.bool r.permit, .int .i64 r.proto, .int .u32 r.sa, .int .i64 r.sn, .int .u32 r.da, .int .i64 r.dn, .int .u32 r.sl, .int .u32 r.sh, .int .u32 r.dl, .int .u32 r.dh] 47)
      rw [hs3] at kb
      have HR3 := Lib.hid (HR.out.below hb3)
      have HB3 := Lib.hid hb3
      have HA3 := Lib.hid ka
      clear hs3 hb3 r0 r1 r2 r3 r4 r5 r6 r7 r8 r9
      generalize (wr.alloc (.cells #[.bool r.permit, .int .i64 r.proto, .int .u32 r.sa, .int .i64 r.sn, .int .u32 r.da, .int .i64 r.dn, .int .u32 r.sl, .int .u32 r.sh, .int .u32 r.dl, .int .u32 r.dh] 47)).alloc (.cells #[.bool r.permit, .int .i64 r.proto, .int .u32 r.sa, .int .i64 r.sn, .int .u32 r.da, .int .i64 r.dn, .int .u32 r.sl, .int .u32 r.sh, .int .u32 r.dl, .int .u32 r.dh] 47) = w3 at *
      have fz := frozen_of_row w3 _ 0 _ _ kb
      have cz : w3.cell? ⟨wr.heap.size + 1, 0, none⟩ = some (.bool r.permit) := cell_of_row _ _ 0 _ _ (0, 0) kb
      have st : ∀ k, k ≠ wr.heap.size + 1 → (w3.setCell ⟨wr.heap.size + 1, 0, none⟩ (.bool false)).heap[k]? = w3.heap[k]? := fun k hk => Below.heap_setCell w3 ⟨wr.heap.size + 1, 0, none⟩ _ k hk
      have hsz : (w3.setCell ⟨wr.heap.size + 1, 0, none⟩ (.bool false)).heap.size = w3.heap.size := by simp [World.setCell]
      have hb4 : Below wr.heap.size wr (w3.setCell ⟨wr.heap.size + 1, 0, none⟩ (.bool false)) := ⟨HB3.out.os, HB3.out.tape, HB3.out.output, by have := HB3.out.size; omega, fun k hk => (st k (by omega)).trans (HB3.out.block k hk)⟩
      have kb4 : (w3.setCell ⟨wr.heap.size + 1, 0, none⟩ (.bool false)).heap[wr.heap.size + 1]? = some (.cells #[.bool (anyR r).permit, .int .i64 (anyR r).proto, .int .u32 (anyR r).sa, .int .i64 (anyR r).sn, .int .u32 (anyR r).da, .int .i64 (anyR r).dn, .int .u32 (anyR r).sl, .int .u32 (anyR r).sh, .int .u32 (anyR r).dl, .int .u32 (anyR r).dh] 47 (0, 0)) := heap_setCell_same _ _ _ _ _ _ kb
      have ka4 := (st wr.heap.size (by omega)).trans ka
      have HR4 := Lib.hid (HR.out.below hb4)
      have HKA := Lib.hid ka4
      have HKB := Lib.hid kb4
      have HB4 := Lib.hid hb4
      clear st hsz hb4 kb4 ka4 ka kb HR3 HB3 HA3
      go_upto_region 14 with fail
      clear fz cz
      generalize w3.setCell ⟨wr.heap.size + 1, 0, none⟩ (.bool false) = w4 at *
      have HCON := Lib.hid (containsRule_any D _ (fun x => sameR x (anyR r)) 30 #[.pointer (some ⟨wr.heap.size + 1, 0, none⟩)] w4 (enters_of Try.func30 (by kernel_rfl) rfl) (rulesEq_pred (anyR r) _ w4 HKB.out) (Rd.of_own HR4.out.seen) (by have := HDD.out.1; omega))
      have HANY := Lib.hid (show D.any (fun x => sameR x (anyR r)) = true → leftF L (k + 1) = leftF L k ∧ decF L k = fun _ => false from fun ha => by
        obtain ⟨d, hd, hs⟩ := List.any_eq_true.1 ha
        obtain ⟨j, x, hj, hx, hdx⟩ := HDD.out.2 d hd
        have he := sameR_eq hs
        subst he
        rw [ruleF_any] at hdx
        have hsub : ∀ s, ruleF r s = true → leftF L k s = false := fun s hs => by
          unfold leftF
          rw [Bool.not_eq_false', List.any_eq_true]
          refine ⟨x, List.mem_of_getElem? (i := j) (by rw [List.getElem?_take_of_lt hj]; exact hx), ?_⟩
          rw [← hdx]; exact hs
        refine ⟨?_, ?_⟩
        · rw [leftF_succ HRR.out]
          funext s
          cases h : ruleF r s
          · simp
          · rw [hsub s h]; rfl
        · rw [decF_eq HRR.out]
          funext s
          cases h : ruleF r s
          · simp
          · rw [hsub s h]; rfl)
      generalize hB : D.any (fun x => sameR x (anyR r)) = Bv at *
      clear hB
      go_wp2_with fail
      refine HCON.out.mono ?_
      rintro e w5 ⟨rfl, hb5⟩
      have HR5 := Lib.hid (HR4.out.below hb5)
      have HKA5 := Lib.hid (blk_below hb5 HKA.out)
      have HKB5 := Lib.hid (blk_below hb5 HKB.out)
      have HB5 := Lib.hid (HB4.out.trans (hb5.mono HB4.out.size))
      have hbs := HR5.out.kept.size
      have hnl := HNS.out
      have hml : ns.length ≤ 1099511627776 := by omega
      clear hb5 HR4 HKA HKB HB4 HCON hnl
      cases Bv with
      | true =>
        obtain ⟨hlf, hdf⟩ := HANY.out rfl
        have HLF := Lib.hid hlf
        have HDF := Lib.hid hdf
        clear hlf hdf HANY
        go_wp2_with (at_builtin; refine wpList_push2 (v := .slice Ao ns.length co) rfl _ _ 52 rfl 3 i0 _ 1 8 Try.underlying52 hif hz0 hz1 hz2 rfl (by decide) (by decide) [.int .i64 0] rfl rfl rfl HR5.out.out rfl (one_i64 _) hml hbs ?_; intro v6 w6 ho6 hg6 hm6; have HR6 := Lib.hid (HR5.out.pushOut (n := 0) ho6 hg6 hm6); obtain ⟨A6, c6, hv6, _⟩ := owns_form ho6; subst hv6; clear ho6 hg6 hm6)
        exact ⟨⟨k + 1, by go_num, by omega, n, τ, ns ++ [0], D, rfl, HR6, Lib.hid (by simp [HNS.out]), Lib.hid (HT.out.mono (by have := HM.out; omega) (by have := HM.out; omega)), Lib.hid (by rw [HLF.out]; exact HD.out), Lib.hid (den_snoc HDS.out HNS.out (by rw [HDF.out]; exact Den.zero HR6.out.sp.ok)), Lib.hid ⟨by have := HDD.out.1; omega, fun d hd => by obtain ⟨j, x, h1, h2, h3⟩ := HDD.out.2 d hd; exact ⟨j, x, by omega, h2, h3⟩⟩⟩, by simp only [intOf]; omega⟩
      | false =>
        clear HANY
        have a0 : w5.cell? ⟨wr.heap.size + 1, 0, none⟩ = some (.bool (anyR r).permit) := cell_of_row _ _ 0 _ _ (0, 0) HKB5.out
        have a1 : w5.cell? ⟨wr.heap.size + 1, 1, none⟩ = some (.int .i64 (anyR r).proto) := cell_of_row _ _ 1 _ _ (0, 0) HKB5.out
        have a2 : w5.cell? ⟨wr.heap.size + 1, 2, none⟩ = some (.int .u32 (anyR r).sa) := cell_of_row _ _ 2 _ _ (0, 0) HKB5.out
        have a3 : w5.cell? ⟨wr.heap.size + 1, 3, none⟩ = some (.int .i64 (anyR r).sn) := cell_of_row _ _ 3 _ _ (0, 0) HKB5.out
        have a4 : w5.cell? ⟨wr.heap.size + 1, 4, none⟩ = some (.int .u32 (anyR r).da) := cell_of_row _ _ 4 _ _ (0, 0) HKB5.out
        have a5 : w5.cell? ⟨wr.heap.size + 1, 5, none⟩ = some (.int .i64 (anyR r).dn) := cell_of_row _ _ 5 _ _ (0, 0) HKB5.out
        have a6 : w5.cell? ⟨wr.heap.size + 1, 6, none⟩ = some (.int .u32 (anyR r).sl) := cell_of_row _ _ 6 _ _ (0, 0) HKB5.out
        have a7 : w5.cell? ⟨wr.heap.size + 1, 7, none⟩ = some (.int .u32 (anyR r).sh) := cell_of_row _ _ 7 _ _ (0, 0) HKB5.out
        have a8 : w5.cell? ⟨wr.heap.size + 1, 8, none⟩ = some (.int .u32 (anyR r).dl) := cell_of_row _ _ 8 _ _ (0, 0) HKB5.out
        have a9 : w5.cell? ⟨wr.heap.size + 1, 9, none⟩ = some (.int .u32 (anyR r).dh) := cell_of_row _ _ 9 _ _ (0, 0) HKB5.out
        have hdl : D.length ≤ 1099511627776 := by have := HDD.out.1; omega
        have HLTS := Lib.hid (fun g hg => (HR.out.seen.lt g hg).2)
        go_upto_region 17 with (at_builtin; refine wpList_push2 (v := .slice As D.length cs) rfl _ _ 49 rfl 47 j0 _ 10 64 Try.underlying49 jif jz0 jz1 jz2 rfl (by decide) (by decide) (anyR r).enc rfl rfl rfl HR5.out.seen rfl (by intro u hu; simp only [RuleV.enc, List.mem_cons, List.not_mem_nil, or_false] at hu; rcases hu with rfl | rfl | rfl | rfl | rfl | rfl | rfl | rfl | rfl | rfl <;> rfl) hdl hbs ?_; intro v6 w6 ho6 hg6 hm6; have HR6 := Lib.hid (HR5.out.pushSeen ho6 hg6 hm6); have HKA6 := Lib.hid ((hg6.block _ (lt_of_block HKA5.out) (fun e => by have := HLTS.out _ e.symm; omega)).trans HKA5.out); obtain ⟨A6, c6, hv6, _⟩ := owns_form ho6; subst hv6; clear ho6 hg6 hm6)
        clear a0 a1 a2 a3 a4 a5 a6 a7 a8 a9 HKA5 HKB5 HR5 HLTS hdl hbs
        have e0 : w6.cell? ⟨wr.heap.size, 0, none⟩ = some (.bool r.permit) := cell_of_row _ _ 0 _ _ (0, 0) HKA6.out
        have e1 : w6.cell? ⟨wr.heap.size, 1, none⟩ = some (.int .i64 r.proto) := cell_of_row _ _ 1 _ _ (0, 0) HKA6.out
        have e2 : w6.cell? ⟨wr.heap.size, 2, none⟩ = some (.int .u32 r.sa) := cell_of_row _ _ 2 _ _ (0, 0) HKA6.out
        have e3 : w6.cell? ⟨wr.heap.size, 3, none⟩ = some (.int .i64 r.sn) := cell_of_row _ _ 3 _ _ (0, 0) HKA6.out
        have e4 : w6.cell? ⟨wr.heap.size, 4, none⟩ = some (.int .u32 r.da) := cell_of_row _ _ 4 _ _ (0, 0) HKA6.out
        have e5 : w6.cell? ⟨wr.heap.size, 5, none⟩ = some (.int .i64 r.dn) := cell_of_row _ _ 5 _ _ (0, 0) HKA6.out
        have e6 : w6.cell? ⟨wr.heap.size, 6, none⟩ = some (.int .u32 r.sl) := cell_of_row _ _ 6 _ _ (0, 0) HKA6.out
        have e7 : w6.cell? ⟨wr.heap.size, 7, none⟩ = some (.int .u32 r.sh) := cell_of_row _ _ 7 _ _ (0, 0) HKA6.out
        have e8 : w6.cell? ⟨wr.heap.size, 8, none⟩ = some (.int .u32 r.dl) := cell_of_row _ _ 8 _ _ (0, 0) HKA6.out
        have e9 : w6.cell? ⟨wr.heap.size, 9, none⟩ = some (.int .u32 r.dh) := cell_of_row _ _ 9 _ _ (0, 0) HKA6.out
        have hnl := HT.out.nl
        have hm := HM.out
        have HRU := Lib.hid (rule_yes HR6.out.sp r HOK.out.1 K HOK.out.2.1 (by omega))
        clear hnl hm HKA6
        go_upto_region 18 with ((with_reducible refine HRU.out.mono ?_); rintro e w7 hr7; obtain ⟨q7, c7, he7⟩ := hr7.form; have HR7 := Lib.hid hr7; subst he7; clear hr7)
        clear e0 e1 e2 e3 e4 e5 e6 e7 e8 e9
        rcases HR7.out.two with ⟨rfl, rfl, hlt7, τ7, hs7, ht7⟩ | ⟨r7, τ7, rfl, rfl, hs7, ht7, hd7⟩
        · have HFIN := Lib.hid (RulesRes.full (L := L) (HK2.out.trans (HR6.out.kept.trans HR7.out.1)) rfl (by have := HT.out.hl; have := HM.out; omega) hs7 ((HT.out.trans ht7).mono (show k * (6080 + 7 * K) + 5 * (1216 + K) ≤ L.length * (6080 + 7 * K) by have := HM.out; omega) (show k * (6080 + 7 * K) + 5 * (1216 + K) ≤ L.length * (6080 + 7 * K) by have := HM.out; omega)))
          clear hlt7 hs7 ht7
          go_wp2
          go_ret2
          exact HFIN.out
        · have HS7 := Lib.hid (HR6.out.space HR7.out.1 hs7)
          have HT7 := Lib.hid (HT.out.trans ht7)
          have HD7 := Lib.hid hd7
          have HL7 := Lib.hid (HD.out.to ht7 HR6.out.sp.ok hs7.ok)
          have HDS7 : Hid (∀ i m, ns[i]? = some m → Den τ7 m (decF L i)) := Lib.hid fun i m hi => (HDS.out i m hi).to ht7 HR6.out.sp.ok hs7.ok
          have hnl := HT7.out.nl
          have hm := HM.out
          have hde : decF L k = fun s => leftF L k s && ruleF r s := decF_eq HRR.out
          have hwd := HOK.out.2.2.1
          rw [hde] at hwd
          have HAN := Lib.hid (show Calls Try.prog 32 #[.pointer (some ⟨S, 0, none⟩), .int .i64 n, .int .i64 r7] w7 (SpRes w7 B S km A Mo τ7 (fun s => leftF L k s && ruleF r s) K K) from relAnd_yes hs7 HL7.out hd7 (leftF_set L k) (ruleK_set r _) (a := K) (b := K) (Grow.wid hs7.ok.wf.two hwd) (by omega))
          have HDE := Lib.hid hde
          clear hs7 ht7 hd7 HR7 HRU hnl hm hde hwd
          go_upto_region 21 with ((with_reducible refine HAN.out.mono ?_); rintro e w8 hr8; obtain ⟨q8, c8, he8⟩ := hr8.form; have HR8 := Lib.hid hr8; subst he8; clear hr8)
          rcases HR8.out.two with ⟨rfl, rfl, hlt8, τ8, hs8, ht8⟩ | ⟨r8, τ8, rfl, rfl, hs8, ht8, hd8⟩
          · have HFIN := Lib.hid (RulesRes.full (L := L) (HK2.out.trans (HS7.out.kept.trans HR8.out.1)) rfl (by have := HT7.out.hl; have := HM.out; omega) hs8 ((HT7.out.trans ht8).mono (show k * (6080 + 7 * K) + 5 * (1216 + K) + K ≤ L.length * (6080 + 7 * K) by have := HM.out; omega) (show k * (6080 + 7 * K) + 5 * (1216 + K) + K ≤ L.length * (6080 + 7 * K) by have := HM.out; omega)))
            clear hlt8 hs8 ht8
            go_wp2
            go_ret2
            exact HFIN.out
          · have HS8 := Lib.hid (HS7.out.space HR8.out.1 hs8)
            have HT8 := Lib.hid (HT7.out.trans ht8)
            have HD8 : Hid (Den τ8 r8 (decF L k)) := Lib.hid (by rw [HDE.out]; exact hd8)
            have HX8 := Lib.hid (HD7.out.to ht8 HS7.out.sp.ok hs8.ok)
            have HL8 := Lib.hid (HL7.out.to ht8 HS7.out.sp.ok hs8.ok)
            have HDS8 : Hid (∀ i m, ns[i]? = some m → Den τ8 m (decF L i)) := Lib.hid fun i m hi => (HDS7.out i m hi).to ht8 HS7.out.sp.ok hs8.ok
            have hnl := HT8.out.nl
            have hm := HM.out
            have hde : leftF L (k + 1) = fun s => leftF L k s && !ruleF r s := leftF_succ HRR.out
            have hwd := HOK.out.2.2.2
            rw [hde] at hwd
            have HLE := Lib.hid (show Calls Try.prog 33 #[.pointer (some ⟨S, 0, none⟩), .int .i64 n, .int .i64 r7] w8 (SpRes w8 B S km A Mo τ8 (fun s => leftF L k s && !ruleF r s) K K) from relLess_yes hs8 HL8.out HX8.out (leftF_set L k) (ruleK_set r _) (a := K) (b := K) (Grow.wid hs8.ok.wf.two hwd) (by omega))
            have HDE2 := Lib.hid hde
            clear hs8 ht8 hd8 HR8 HAN hnl hm hde hwd HDS7 HL7 HD7 HS7 HT7 HDE
            go_upto_region 24 with ((with_reducible refine HLE.out.mono ?_); rintro e w9 hr9; obtain ⟨q9, c9, he9⟩ := hr9.form; have HR9 := Lib.hid hr9; subst he9; clear hr9)
            rcases HR9.out.two with ⟨rfl, rfl, hlt9, τ9, hs9, ht9⟩ | ⟨r9, τ9, rfl, rfl, hs9, ht9, hd9⟩
            · have HFIN := Lib.hid (RulesRes.full (L := L) (HK2.out.trans (HS8.out.kept.trans HR9.out.1)) rfl (by have := HT8.out.hl; have := HM.out; omega) hs9 ((HT8.out.trans ht9).mono (show k * (6080 + 7 * K) + 5 * (1216 + K) + K + K ≤ L.length * (6080 + 7 * K) by have := HM.out; omega) (show k * (6080 + 7 * K) + 5 * (1216 + K) + K + K ≤ L.length * (6080 + 7 * K) by have := HM.out; omega)))
              clear hlt9 hs9 ht9
              go_wp2
              go_ret2
              exact HFIN.out
            · have HS9 := Lib.hid (HS8.out.space HR9.out.1 hs9)
              have HT9 := Lib.hid ((HT8.out.trans ht9).mono (show k * (6080 + 7 * K) + 5 * (1216 + K) + K + K ≤ (k + 1) * (6080 + 7 * K) by have := HM.out; omega) (show k * (6080 + 7 * K) + 5 * (1216 + K) + K + K ≤ (k + 1) * (6080 + 7 * K) by have := HM.out; omega))
              have HD9 : Hid (Den τ9 r9 (leftF L (k + 1))) := Lib.hid (by rw [HDE2.out]; exact hd9)
              have HX9 := Lib.hid (HD8.out.to ht9 HS8.out.sp.ok hs9.ok)
              have HDS9 : Hid (∀ i m, ns[i]? = some m → Den τ9 m (decF L i)) := Lib.hid fun i m hi => (HDS8.out i m hi).to ht9 HS8.out.sp.ok hs9.ok
              have hbs := HS9.out.kept.size
              clear hs9 ht9 hd9 HR9 HLE HS8 HT8 HD8 HX8 HL8 HDS8 HDE2
              go_wp2_with (at_builtin; refine wpList_push2 (v := .slice Ao ns.length co) rfl _ _ 52 rfl 3 i0 _ 1 8 Try.underlying52 hif hz0 hz1 hz2 rfl (by decide) (by decide) [.int .i64 r8] rfl rfl rfl HS9.out.out rfl (one_i64 _) hml hbs ?_; intro v10 w10 ho10 hg10 hm10; have HR10 := Lib.hid (HS9.out.pushOut (n := r8) ho10 hg10 hm10); obtain ⟨A10, c10, hv10, _⟩ := owns_form ho10; subst hv10; clear ho10 hg10 hm10)
              exact ⟨⟨k + 1, by go_num, by omega, r9, τ9, ns ++ [r8], D ++ [anyR r], rfl, HR10, Lib.hid (by simp [HNS.out]), HT9, HD9, Lib.hid (den_snoc HDS9.out HNS.out HX9.out), Lib.hid ⟨by have := HDD.out.1; simp; omega, fun d hd => by
                rcases List.mem_append.1 hd with hd | hd
                · obtain ⟨j, x, h1, h2, h3⟩ := HDD.out.2 d hd
                  exact ⟨j, x, by omega, h2, h3⟩
                · obtain rfl := List.mem_singleton.1 hd
                  exact ⟨k, r, by omega, HRR.out, ruleF_any r⟩⟩⟩, by simp only [intOf]; omega⟩
    · obtain rfl : k = L.length := by omega
      have hI : ¬ (L.length : Int) < (L.length : Int) := by omega
      have HFIN : Hid (RulesRes w B S km A Mo σ L (L.length * (6080 + 7 * K)) (.returned (.tuple #[.slice Ao ns.length co, .int .i64 0])) wr) := Lib.hid ⟨HK2.out.trans HR.out.kept, .inr ⟨_, ns, τ, rfl, HR.out.sp, HT.out, HNS.out, HDS.out, owns_base HR.out.out HSZ.out, HR.out.outf⟩⟩
      go_wp2
      go_ret2
      exact HFIN.out
end
end Go.Proofs.Ytcchiagclhkieaa

/-
  What a filter permits, as a set; the refusals.
-/
namespace Go.Proofs.Ytcchiagclhkieaa
open Go Go.RowKit Go.ChangeMaps Go.MapKept Go.Maps Go.Lib Go.Sort

def permitAt (L : List RuleV) (k : Nat) : Bool := (L[k]?.map (·.permit)).getD false
/-- What the first k rules permit. -/
def setF (L : List RuleV) : Nat → Fun
  | 0 => fun _ => false
  | k + 1 => if permitAt L k then fun s => setF L k s || decF L k s else setF L k
theorem decF_set' (L : List RuleV) (k : Nat) : SetF (decF L k) := by
  cases h : L[k]? with
  | none =>
    have e : decF L k = fun _ => false := funext fun s => by unfold decF ruleAt; rw [h]; simp
    rw [e]
    exact SetF.const false
  | some r => exact decF_set h
theorem setF_set (L : List RuleV) : ∀ k, SetF (setF L k)
  | 0 => SetF.const false
  | k + 1 => by
    unfold setF
    split
    · exact (setF_set L k).op2 (fun x y => x || y) (decF_set' L k)
    · exact setF_set L k
section
variable {w : World} {B S km : Nat} {A : Blks} {Mo : Nat} {σ : Sg}
set_option maxRecDepth 100000
set_option maxHeartbeats 8000000
theorem set_yes (h : SpOk w B S km A Mo σ) (nm : ByteArray) (L : List RuleV) (vL : Value) (hL : RdF A km w 10 vL L.length (rcells L)) (he : filtE L = 0) (K : Nat) (hK : FiltW L K) (hKs : ∀ k, k ≤ L.length → Wid (setF L k) K) (hl : σ.N.length + L.length * (6080 + 8 * K) ≤ 2147483647) :
    Calls Try.prog 11 #[.pointer (some ⟨S, 0, none⟩), .agg #[.string nm, vL]] w (SpRes w B S km A Mo σ (setF L L.length) (L.length * (6080 + 8 * K)) (L.length * (6080 + 8 * K))) := by
  obtain ⟨hlen, _⟩ := rule_may he
  obtain ⟨PL, cL, rfl, _⟩ := hL.rd.form
  have hbw := below1 w (.cells #[.string nm, .slice PL L.length cL] 51)
  have hbk := blk1 w (.cells #[.string nm, .slice PL L.length cL] 51)
  have hmul : L.length * (6080 + 8 * K) = L.length * (6080 + 7 * K) + L.length * K := by rw [← Nat.mul_add]; congr 1; omega
  have HL := Lib.hid (hL.kept (h.kept hbw))
  have HS := Lib.hid (h.below hbw)
  have HK0 := Lib.hid (h.kept hbw)
  have HFO := Lib.hid (h.sp.ar.foreign_new hbw (Nat.le_refl _) (lt_of_block hbk))
  have HNE : Hid (w.heap.size ≠ km) := Lib.hid (by have := h.sp.fk.1; omega)
  have HBK := Lib.hid hbk
  have b0 : (w.alloc (.cells #[.string nm, .slice PL L.length cL] 51)).cell? ⟨w.heap.size, 0, none⟩ = some (.string nm) := cell_of_row _ _ 0 _ _ (0, 0) hbk
  have b1 : (w.alloc (.cells #[.string nm, .slice PL L.length cL] 51)).cell? ⟨w.heap.size, 1, none⟩ = some (.slice PL L.length cL) := cell_of_row _ _ 1 _ _ (0, 0) hbk
  have HRU := Lib.hid (rules_yes HS.out nm L _ HL.out he K hK (by omega))
  have HWS := Lib.hid hKs
  have HMUL := Lib.hid (And.intro hmul hl)
  clear h hL he hbw hbk hK hKs hmul hl
  go_enter Try.func11, Try.ntmps11
  go_upto_region 1 with fail
  generalize w.alloc (.cells #[.string nm, .slice PL L.length cL] 51) = w0 at *
  go_wp2_with fail
  refine HRU.out.mono ?_
  rintro e w2 ⟨hk2, hres⟩
  have HK2 := Lib.hid hk2
  rcases hres with ⟨rfl, hlt2, τ2, hs2, ht2⟩ | ⟨v, ns, τ2, rfl, hs2, ht2, hns, hds, hown, hof⟩
  · have HFIN := Lib.hid (SpRes.full (F := setF L L.length) (HK0.out.trans hk2) rfl (by have := HMUL.out.1; omega) hs2 (ht2.mono (show L.length * (6080 + 7 * K) ≤ L.length * (6080 + 8 * K) by have := HMUL.out.1; omega) (show L.length * (6080 + 7 * K) ≤ L.length * (6080 + 8 * K) by have := HMUL.out.1; omega)))
    clear hlt2 hs2 ht2 hk2
    go_wp2
    go_ret2
    exact HFIN.out
  · obtain ⟨Av, cv, hve, hav⟩ := owns_form hown
    subst hve
    have HS2 := Lib.hid hs2
    have HT2 := Lib.hid ht2
    have HD2 := Lib.hid hds
    have HNS := Lib.hid hns
    have HOW := Lib.hid hown
    have HOF := Lib.hid hof
    have HAV := Lib.hid hav
    have HL2 := Lib.hid (HL.out.kept hk2)
    have HBX : Hid (∀ W, KeptS A km w2 W → W.cell? ⟨w.heap.size, 1, none⟩ = some (.slice PL L.length cL)) := Lib.hid fun W hW =>
      cell_of_row W _ 1 _ _ (0, 0) (((hk2.trans hW).same _ HFO.out HNE.out).1.trans HBK.out)
    have hnI : (ns.length : Int) = (L.length : Int) := by omega
    rw [hns]
    clear hs2 ht2 hds hown hof hav hk2 b0 b1 HRU HFO HNE HBK HL hnI
    have hns' := HNS.out
    clear hns
    go_wp2
    go_loopw [8, 22] (fun f i wr => ∃ k : Nat, i = .int .i64 k ∧ k ≤ L.length ∧ ∃ (q : Nat) (τ : Sg), f = .int .i64 q ∧ Hid (SpOk wr B S km A Mo τ) ∧ Hid (To (L.length * (6080 + 7 * K) + k * K) (L.length * (6080 + 7 * K) + k * K) σ τ) ∧ Hid (To (k * K) (k * K) τ2 τ) ∧ Hid (Den τ q (setF L k)) ∧ Hid (KeptS A km w2 wr)) (fun _ i _ => L.length - (intOf i).toNat)
    case atStart => exact ⟨0, rfl, by omega, 0, τ2, rfl, HS2, Lib.hid (by rw [Nat.zero_mul, Nat.add_zero]; exact HT2.out), Lib.hid (by rw [Nat.zero_mul]; exact To.refl _), Lib.hid (Den.zero HS2.out.ok), Lib.hid (KeptS.refl _ _ _)⟩
    case round =>
      obtain ⟨k, rfl, hk, q, τ, rfl, HSR, HTR, HTT, HDR, HKR⟩ := hrel
      have b1 := HBX.out wr HKR.out
      by_cases hlt : k < L.length
      · have hI : (k : Int) < (L.length : Int) := by omega
        obtain ⟨r, hr⟩ : ∃ r, L[k]? = some r := ⟨_, List.getElem?_eq_getElem hlt⟩
        obtain ⟨P', c', hv', _, _, hcell⟩ := HL2.out.kept HKR.out
        injection hv' with hP hlq hcq
        subst hP hcq
        clear hlq
        obtain ⟨bL, off, rfl, _, _, hcell⟩ := hcell (by omega)
        have r0 : wr.cell? ⟨bL, off + k * 10, none⟩ = some (.bool r.permit) := hcell (k * 10) _ (rcell (i := 0) hr rfl)
        obtain ⟨x, hx⟩ : ∃ x, ns[k]? = some x := ⟨_, List.getElem?_eq_getElem (by have := HNS.out; omega)⟩
        obtain ⟨g, hg⟩ := HAV.out (by have := HNS.out; omega)
        subst hg
        have hfo := HOF.out g rfl
        have hxc : wr.cell? ⟨g, k, none⟩ = some (.int .i64 x) := (World.cell?_of_block (HKR.out.same g hfo.1 hfo.2.1).1).trans ((HOW.out.cellAt k (by have := HNS.out; omega)).trans (by simp [ncl, hx]))
        have HDX := Lib.hid ((HD2.out k x hx).to HTT.out HS2.out.ok HSR.out.ok)
        have hpa : permitAt L k = r.permit := by unfold permitAt; rw [hr]; rfl
        have hm1 : (k + 1) * K ≤ L.length * K := Nat.mul_le_mul_right _ hlt
        have hm2 : (k + 1) * K = k * K + K := by rw [Nat.add_mul, Nat.one_mul]
        have HM := Lib.hid (And.intro hm1 hm2)
        have hwk := HWS.out (k + 1) (by omega)
        have HSF : Hid (setF L (k + 1) = if r.permit then fun s => setF L k s || decF L k s else setF L k) := Lib.hid (by rw [← hpa]; rfl)
        clear hcell hr hx hfo hm1 hm2 hpa
        cases hp : r.permit with
        | false =>
          rw [hp] at r0 HSF
          have HD8 : Hid (Den τ q (setF L (k + 1))) := Lib.hid (by rw [HSF.out]; exact HDR.out)
          have HT8 := Lib.hid (HTR.out.mono (show L.length * (6080 + 7 * K) + k * K ≤ L.length * (6080 + 7 * K) + (k + 1) * K by have := HM.out; omega) (show L.length * (6080 + 7 * K) + k * K ≤ L.length * (6080 + 7 * K) + (k + 1) * K by have := HM.out; omega))
          have HTT8 := Lib.hid (HTT.out.mono (show k * K ≤ (k + 1) * K by have := HM.out; omega) (show k * K ≤ (k + 1) * K by have := HM.out; omega))
          clear hp hwk
          go_wp2
          exact ⟨⟨k + 1, by go_num, by omega, q, τ, rfl, HSR, HT8, HTT8, HD8, HKR⟩, by simp only [intOf]; omega⟩
        | true =>
          rw [hp] at r0 HSF
          have hnl := HTR.out.nl
          have hmm := HMUL.out
          have hm := HM.out
          have hsf : setF L (k + 1) = fun s => setF L k s || decF L k s := by rw [HSF.out]; rfl
          rw [hsf] at hwk
          have HOR := Lib.hid (show Calls Try.prog 28 #[.pointer (some ⟨S, 0, none⟩), .int .i64 q, .int .i64 x] wr (SpRes wr B S km A Mo τ (fun s => setF L k s || decF L k s) K K) from relOr_yes HSR.out HDR.out HDX.out (setF_set L k) (decF_set' L k) (a := K) (b := K) (Grow.wid HSR.out.ok.wf.two hwk) (by omega))
          have HSF2 := Lib.hid hsf
          clear hnl hmm hm hwk hsf hp
          go_upto_region 10 with ((with_reducible refine HOR.out.mono ?_); rintro e w8 hr8; obtain ⟨q8, c8, he8⟩ := hr8.form; have HR8 := Lib.hid hr8; subst he8; clear hr8)
          rcases HR8.out.two with ⟨rfl, rfl, hlt8, τ8, hs8, ht8⟩ | ⟨r8, τ8, rfl, rfl, hs8, ht8, hd8⟩
          · have HFIN := Lib.hid (SpRes.full (F := setF L L.length) (HK0.out.trans (HK2.out.trans (HKR.out.trans HR8.out.1))) rfl (by have := HTR.out.hl; have := HM.out; have := HMUL.out.1; omega) hs8 ((HTR.out.trans ht8).mono (show L.length * (6080 + 7 * K) + k * K + K ≤ L.length * (6080 + 8 * K) by have := HM.out; have := HMUL.out.1; omega) (show L.length * (6080 + 7 * K) + k * K + K ≤ L.length * (6080 + 8 * K) by have := HM.out; have := HMUL.out.1; omega)))
            clear hlt8 hs8 ht8
            go_wp2
            go_ret2
            exact HFIN.out
          · have HS8 := Lib.hid hs8
            have HT8 := Lib.hid ((HTR.out.trans ht8).mono (show L.length * (6080 + 7 * K) + k * K + K ≤ L.length * (6080 + 7 * K) + (k + 1) * K by have := HM.out; omega) (show L.length * (6080 + 7 * K) + k * K + K ≤ L.length * (6080 + 7 * K) + (k + 1) * K by have := HM.out; omega))
            have HTT8 := Lib.hid ((HTT.out.trans ht8).mono (show k * K + K ≤ (k + 1) * K by have := HM.out; omega) (show k * K + K ≤ (k + 1) * K by have := HM.out; omega))
            have HD8 : Hid (Den τ8 r8 (setF L (k + 1))) := Lib.hid (by rw [HSF2.out]; exact hd8)
            have HK8 := Lib.hid (HKR.out.trans HR8.out.1)
            clear hs8 ht8 hd8 HR8 HOR
            go_wp2
            exact ⟨⟨k + 1, by go_num, by omega, r8, τ8, rfl, HS8, HT8, HTT8, HD8, HK8⟩, by simp only [intOf]; omega⟩
      · obtain rfl : k = L.length := by omega
        have hI : ¬ (L.length : Int) < (L.length : Int) := by omega
        have HFIN : Hid (SpRes w B S km A Mo σ (setF L L.length) (L.length * (6080 + 8 * K)) (L.length * (6080 + 8 * K)) (.returned (.tuple #[.int .i64 q, .int .i64 0])) wr) := Lib.hid ⟨HK0.out.trans (HK2.out.trans HKR.out), .inr ⟨q, τ, rfl, HSR.out, HTR.out.mono (Nat.le_of_eq HMUL.out.1.symm) (Nat.le_of_eq HMUL.out.1.symm), HDR.out⟩⟩
        go_wp2
        go_ret2
        exact HFIN.out
end
end Go.Proofs.Ytcchiagclhkieaa

/-
  Rules without bounds; nobody's space.
-/
namespace Go.Proofs.Ytcchiagclhkieaa
open Go Go.RowKit Go.ChangeMaps Go.MapKept Go.Maps Go.Lib Go.Sort

theorem reachF_zero (a n : Nat) : ∀ m, reachF a n 0 true m = fun _ => true
  | 0 => rfl
  | m + 1 => by
    unfold reachF stepF
    rw [reachF_zero a n m]
    funext s
    simp
theorem reachF_top (a n k : Nat) : ∀ m, m ≤ k → reachF a n (2 ^ k - 1) false m = fun _ => true
  | 0, _ => rfl
  | m + 1, hm => by
    have hb : (2 ^ k - 1).testBit m = true := by rw [Nat.testBit_two_pow_sub_one]; simp; omega
    unfold reachF stepF
    rw [reachF_top a n k m (by omega), hb]
    funext s
    simp
theorem spanF_all (a n k : Nat) (h : n ≤ k) : spanF a n 0 (2 ^ k - 1) = fun _ => true := by
  unfold spanF
  rw [reachF_zero, reachF_top a n k n h]
  rfl
/-- The rule without bounds, of a protocol or of any. -/
def wideR (permit : Bool) (p : Int) (hp : -1 ≤ p ∧ p ≤ 255) : RuleV := ⟨permit, p, 0, 0, 0, 0, 0, 65535, 0, 65535, by omega, by omega, by omega, by omega, by omega, by omega, by omega⟩
theorem wide_ask (b : Bool) (p : Int) (hp : -1 ≤ p ∧ p ≤ 255) : ∀ k, k < 4 → askF (wideR b p hp) k = fun _ => true := by
  intro k hk
  obtain rfl | rfl | rfl | rfl : k = 0 ∨ k = 1 ∨ k = 2 ∨ k = 3 := by omega
  · rfl
  · rfl
  · exact spanF_all 72 16 16 (Nat.le_refl _)
  · exact spanF_all 88 16 16 (Nat.le_refl _)
theorem wide_ruleK (b : Bool) (p : Int) (hp : -1 ≤ p ∧ p ≤ 255) : ∀ k, k ≤ 4 → ruleK (wideR b p hp) k = fun _ => true
  | 0, _ => rfl
  | k + 1, hk => by
    unfold ruleK
    rw [wide_ruleK b p hp k (by omega), wide_ask b p hp k (by omega)]
    rfl
theorem wide_five (b : Bool) (p : Int) (hp : -1 ≤ p ∧ p ≤ 255) : ruleK (wideR b p hp) 5 = spanF 64 8 p.toNat p.toNat := by
  show (fun s => ruleK (wideR b p hp) 4 s && askF (wideR b p hp) 4 s) = _
  rw [wide_ruleK b p hp 4 (Nat.le_refl _)]
  rfl
theorem wide_ruleF (b : Bool) (p : Int) (hp : -1 ≤ p ∧ p ≤ 255) : ruleF (wideR b p hp) = if 0 ≤ p then spanF 64 8 p.toNat p.toNat else fun _ => true := by
  unfold ruleF asksN
  show ruleK _ (if 0 ≤ p then 5 else 4) = _
  split
  · exact wide_five b p hp
  · exact wide_ruleK b p hp 4 (Nat.le_refl _)
theorem Wid.const (b : Bool) : Wid (fun _ => b) 0 := (Wid.seg (a := 0) (b := 0) (k := 1) (Hangs.const b 0 0) (by omega) (fun v => CutLe.const b v)).mono (by omega)
theorem wide_wid (b : Bool) (p : Int) (hp : -1 ≤ p ∧ p ≤ 255) : ∀ j, j ≤ 5 → Wid (ruleK (wideR b p hp) j) 576 := by
  intro j hj
  rcases Nat.lt_or_ge j 5 with h | h
  · rw [wide_ruleK b p hp j (by omega)]
    exact (Wid.const true).mono (by omega)
  · obtain rfl : j = 5 := by omega
    rw [wide_five b p hp]
    exact spanF_wid 64 8 _ _ (by omega) (by omega)
theorem wide_may (b : Bool) (p : Int) (hp : -1 ≤ p ∧ p ≤ 255) : mayB (wideR b p hp) = true := by
  unfold mayB
  have h1 : chk 0 0 = 0 := by decide
  show (decide (-1 ≤ p) && decide (p ≤ 255) && decide (chk 0 0 = 0) && decide (chk 0 0 = 0) && portsB 0 65535 && portsB 0 65535) = true
  rw [h1]
  simp [portsB, hp.1, hp.2]
theorem RdF.none (A : Blks) (km : Nat) (w : World) (k : Nat) : RdF A km w k (.slice none 0 0) 0 [] := ⟨_, 0, rfl, Nat.le_refl _, by simp, fun h => absurd h (by omega)⟩
section
set_option maxRecDepth 100000
set_option maxHeartbeats 2000000
theorem rules_nil (w : World) (fv : Value) (nm : ByteArray) : Calls Try.prog 12 #[.pointer none, .agg #[.string nm, fv]] w fun e w' => e = .returned (.tuple #[.slice none 0 0, .int .i64 2]) ∧ Below w.heap.size w w' := by
  go_enter Try.func12, Try.ntmps12
  go_wp2
  go_ret2
  exact ⟨rfl, below1 w _⟩
end
end Go.Proofs.Ytcchiagclhkieaa

/-
  A new space; what lies below a space's blocks stays; filter.Set at nobody's space; the rules of a closed law.
-/
namespace Go.Proofs.Ytcchiagclhkieaa
open Go Go.RowKit Go.ChangeMaps Go.MapKept Go.Maps Go.Lib Go.Sort

def newSg : Sg := ⟨N0, [], [0, 1], []⟩
theorem newSg_ok (Mo : Nat) : SgOk Mo newSg := by
  refine ⟨N0_wf, ⟨List.nodup_nil, fun i hi => absurd hi (by simp [newSg])⟩, fun i hi => absurd hi (by simp [newSg]), fun g hg => ?_, by simp [newSg], by simp [newSg], fun p hp => absurd hp (by simp [newSg]), Nat.zero_le _, by decide⟩
  have h2 : g = 0 ∨ g = 1 := by simpa [newSg] using hg
  rcases h2 with rfl | rfl
  · exact ⟨by decide, .inl (by omega), Hangs.const false 0 208⟩
  · exact ⟨by decide, .inl (by omega), Hangs.const true 0 208⟩
section
variable {w w' : World} {B S km : Nat} {A : Blks} {Mo : Nat} {σ : Sg}
theorem SpAt.newOk (h : SpAt w B S km A Mo N0 [] [0, 1] []) : SpOk w B S km A Mo newSg := ⟨h, newSg_ok Mo⟩
theorem SpOk.foreign_low (h : SpOk w B S km A Mo σ) {k : Nat} (hk : k < B) : Foreign A w k := by
  obtain ⟨nv, ha⟩ := h.sp.ar
  have hb : B ≤ A.a := ha.base A.a (by simp [Blks.list])
  have hl := lt_of_block ha.cells
  refine ⟨by omega, fun hm => by have := ha.base k hm; omega, fun v hv e => ?_⟩
  rw [ha.cell2] at hv
  injection hv with hv
  subst hv
  have := (ha.row.lt k e).1
  omega
theorem SpOk.low (h : SpOk w B S km A Mo σ) (hB : B ≤ km) (hk : KeptS A km w w') : Below B w w' :=
  ⟨hk.os, hk.tape, hk.output, hk.size, fun k hlt => (hk.same k (h.foreign_low hlt) (by omega)).1⟩
end
section
set_option maxRecDepth 100000
set_option maxHeartbeats 2000000
theorem set_nil (w : World) (fv : Value) (nm : ByteArray) : Calls Try.prog 11 #[.pointer none, .agg #[.string nm, fv]] w fun e w' => e = .returned (.tuple #[.int .i64 0, .int .i64 2]) ∧ Below w.heap.size w w' := by
  have HRU := Lib.hid (rules_nil (w.alloc (.cells #[.string nm, fv] 51)) fv nm)
  have hbw := below1 w (.cells #[.string nm, fv] 51)
  have hbk := blk1 w (.cells #[.string nm, fv] 51)
  have b0 : (w.alloc (.cells #[.string nm, fv] 51)).cell? ⟨w.heap.size, 0, none⟩ = some (.string nm) := cell_of_row _ _ 0 _ _ (0, 0) hbk
  have b1 : (w.alloc (.cells #[.string nm, fv] 51)).cell? ⟨w.heap.size, 1, none⟩ = some fv := cell_of_row _ _ 1 _ _ (0, 0) hbk
  have HB := Lib.hid hbw
  clear hbw hbk
  go_enter Try.func11, Try.ntmps11
  go_upto_region 1 with fail
  generalize w.alloc (.cells #[.string nm, fv] 51) = w0 at *
  go_wp2_with fail
  refine HRU.out.mono ?_
  rintro e w2 ⟨rfl, hb2⟩
  have HB2 := Lib.hid (HB.out.trans (hb2.mono HB.out.size))
  clear hb2
  go_wp2
  go_ret2
  exact ⟨rfl, HB2.out⟩
end
/-- The rule that permits all. -/
def allR : RuleV := wideR true (-1) (by omega)
theorem allR_F : ruleF allR = fun _ => true := by
  unfold allR
  rw [wide_ruleF]
  rfl
theorem allR_left0 : leftF [allR] 0 = fun _ => true := rfl
theorem allR_dec : decF [allR] 0 = fun _ => true := by
  have h : [allR][0]? = some allR := rfl
  rw [decF_eq h, allR_left0, allR_F]
  rfl
theorem allR_left1 : leftF [allR] 1 = fun _ => false := by
  have h : [allR][0]? = some allR := rfl
  rw [leftF_succ h, allR_left0, allR_F]
  rfl
theorem allR_set1 : setF [allR] 1 = fun _ => true := by
  show (if permitAt [allR] 0 then fun s => setF [allR] 0 s || decF [allR] 0 s else setF [allR] 0) = _
  rw [if_pos (show permitAt [allR] 0 = true from rfl), allR_dec]
  rfl
theorem allR_filt : FiltW [allR] 576 := by
  intro k r hr
  obtain rfl : k = 0 := by
    have := (List.getElem?_eq_some_iff.1 hr).1
    simp at this
    omega
  obtain rfl : r = allR := by injection hr with hr; exact hr.symm
  refine ⟨wide_wid true (-1) (by omega), ?_, ?_⟩
  · rw [allR_dec]; exact (Wid.const true).mono (by omega)
  · rw [allR_left1]; exact (Wid.const false).mono (by omega)
theorem allR_sets : ∀ k, k ≤ [allR].length → Wid (setF [allR] k) 576 := by
  intro k hk
  have h1 : [allR].length = 1 := rfl
  obtain rfl | rfl : k = 0 ∨ k = 1 := by omega
  · exact (Wid.const false).mono (by omega)
  · rw [allR_set1]; exact (Wid.const true).mono (by omega)
theorem allR_may : mayB allR = true := wide_may true (-1) (by omega)
theorem allR_filtE (n : Nat) (hn : n ≤ 256) : filtE (List.replicate n allR) = 0 := by
  refine filtE_3 (by simp; omega) ?_
  rw [List.any_eq_false]
  intro x hx
  rw [(List.mem_replicate.1 hx).2, allR_may]
  simp
theorem allR_filtE' (n : Nat) (hn : 256 < n) : filtE (List.replicate n allR) = 121 := filtE_1 (by simp; omega)
end Go.Proofs.Ytcchiagclhkieaa

/-
  A space's Count of the whole, Used; nobody's space.
-/
namespace Go.Proofs.Ytcchiagclhkieaa
open Go Go.RowKit Go.ChangeMaps Go.MapKept Go.Maps Go.Lib Go.Sort

section
set_option maxRecDepth 100000
set_option maxHeartbeats 4000000
variable {w : World} {B S km : Nat} {A : Blks} {Mo : Nat} {σ : Sg}
/-- A call on a space that leaves its nodes. -/
def SpSame (w : World) (B S km : Nat) (A : Blks) (Mo : Nat) (σ : Sg) (v : Value) (e : Ending) (w' : World) : Prop := e = .returned v ∧ ∃ K, SpOk w' B S km A Mo (σ.know K) ∧ KeptS A km w w'
theorem relCount_one (h : SpOk w B S km A Mo σ) :
    Calls Try.prog 9 #[.pointer (some ⟨S, 0, none⟩), .int .i64 1] w (SpSame w B S km A Mo σ (.tuple #[.agg #[.int .u64 1099511627776, .int .u64 0], .int .i64 0])) := by
  have hb := below1 w (.cells #[.int .u64 0, .int .u64 0] 37)
  have hk := blk1 w (.cells #[.int .u64 0, .int .u64 0] 37)
  have h1 := h.below hb
  have HK0 := Lib.hid (h.kept hb)
  have HF := Lib.hid (h.sp.ar.foreign_new hb (Nat.le_refl _) (lt_of_block hk))
  have HN : Hid (w.heap.size ≠ km ∧ w.heap.size ≠ S) := Lib.hid ⟨by have := h.sp.fk.1; omega, by have := lt_of_block h.sp.cells; omega⟩
  have HB := Lib.hid hk
  have HCK := Lib.hid (h1.check1 1 (by unfold I64; omega))
  have OK : Hid (AllNum σ [1] []) := Lib.hid (show AllNum σ [((1 : Nat) : Int)] [] from allOk1 (Den.one h.ok) (SetF.const true))
  clear hb hk h1 h
  go_enter Try.func9, Try.ntmps9
  go_upto_region 1 with fail
  generalize w.alloc (.cells #[.int .u64 0, .int .u64 0] 37) = w1 at *
  go_upto_region 2 with ((with_reducible refine HCK.out.mono ?_); rintro e W2 hr; obtain ⟨he, K, hs2, hk2⟩ := hr.yes OK.out; subst he; have HS2 := Lib.hid hs2; have HK2 := Lib.hid (HK0.out.trans hk2); have HX2 := Lib.hid (hk2.same _ HF.out HN.out.1); clear hr hs2 hk2)
  clear HCK OK
  go_upto_region 4 with fail
  have c0 := HS2.out.sp.c0
  have kr := HX2.out.1.trans HB.out
  have hne : Nonempty (InW (fun x => W2.grownBy x (some w.heap.size))) := ⟨⟨W2, World.grownBy.refl _ _⟩⟩
  refine wp_region_mixS (fun x => W2.grownBy x (some w.heap.size)) [(0, false), (1, false), (2, false), (3, false), (4, false), (5, true), (6, true), (7, false), (8, false), (9, true), (10, false)] (by kernel_rfl) (by kernel_rfl) ⟨rfl, rfl, rfl, Nat.le_refl _, fun _ _ _ => rfl⟩ ?_
  have L0 : ∀ p : InW (fun x => W2.grownBy x (some w.heap.size)), p.w.cell? ⟨S, 0, none⟩ = some (.pointer (some ⟨A.a, 0, none⟩)) := fun p => (World.cell?_of_block (p.h.block _ (lt_of_block HS2.out.sp.cells) (fun e => by injection e with e; exact HN.out.2 e.symm))).trans c0
  have hdb : Below W2.heap.size W2 { W2 with drawn := W2.drawn + 1 } := ⟨rfl, rfl, rfl, Nat.le_refl _, fun _ _ => rfl⟩
  generalize { W2 with drawn := W2.drawn + 1 } = V0 at *
  refine mix_take [0, 1, 2, 3, 4] [_, _, _, _, _] rfl rfl ?_
  simp only [List.getElem_toArray, List.getElem_cons_zero, List.getElem_cons_succ]
  repeat (go_big_quiet_step (fail))
  refine wpQuiet_nil ?_
  have HDB := Lib.hid hdb
  have KR := Lib.hid kr
  clear L0 hdb c0 kr
  refine mix_barS rfl (by rfl) ?_
  simp only [List.getElem_toArray, List.getElem_cons_zero, List.getElem_cons_succ]
  go_simp
  refine (all_any V0 nowF).mono ?_
  rintro e V1 ⟨v1, rfl, ho1, hb1⟩
  obtain ⟨P1, c1, hv1, _⟩ := owns_form ho1
  subst hv1
  have HD1 := Lib.hid (HDB.out.trans (hb1.mono HDB.out.size))
  have HG1 : Hid (W2.grownBy V1 (some w.heap.size)) := Lib.hid ⟨HD1.out.os, HD1.out.tape, HD1.out.output, HD1.out.size, fun i hi _ => HD1.out.block i hi⟩
  have HS1 := Lib.hid (HS2.out.below HD1.out)
  have hrd := Rd.of_own ho1
  have hc1 := count_one HS1.out.sp.ar ⟨HS1.out.ok.g1, HS1.out.ok.wf.two⟩ (varsL 0 104) (.slice P1 104 c1) (by rw [varsL_len]; exact hrd) (fun x hx => varsL_in 104 x hx) (varsL_rise 0 104) (varsL_len 0 104)
  unfold Blks.val at hc1
  have HC := Lib.hid hc1
  clear hb1 ho1 hrd hc1
  refine ⟨(fun x => W2.grownBy x (some w.heap.size)), HG1.out, fun _ h => h, ?_⟩
  refine mix_barS rfl (by rfl) ?_
  simp only [List.getElem_toArray, List.getElem_cons_zero, List.getElem_cons_succ]
  go_simp
  refine HC.out.mono ?_
  rintro e V2 ⟨rfl, hb2⟩
  have HD2 := Lib.hid (HD1.out.trans (hb2.mono HD1.out.size))
  have HG2 : Hid (W2.grownBy V2 (some w.heap.size)) := Lib.hid ⟨HD2.out.os, HD2.out.tape, HD2.out.output, HD2.out.size, fun i hi _ => HD2.out.block i hi⟩
  clear hb2 HC
  refine ⟨(fun x => W2.grownBy x (some w.heap.size)), HG2.out, fun _ h => h, ?_⟩
  refine mix_take [7, 8] [_, _] rfl rfl ?_
  simp only [List.getElem_toArray, List.getElem_cons_zero, List.getElem_cons_succ]
  repeat (go_big_quiet_step (fail))
  refine wpQuiet_nil ?_
  have kr := blk_below HD2.out KR.out
  obtain ⟨r0, r1, z0, z1⟩ := two_cells kr
  have y1 : (V2.setCell ⟨w.heap.size, 0, none⟩ (.int .u64 1099511627776)).heap[w.heap.size]? = some (.cells #[.int .u64 1099511627776, .int .u64 0] 37 (0, 0)) := heap_setCell_same _ _ _ _ _ _ kr
  have y2 : ((V2.setCell ⟨w.heap.size, 0, none⟩ (.int .u64 1099511627776)).setCell ⟨w.heap.size, 1, none⟩ (.int .u64 0)).heap[w.heap.size]? = some (.cells #[.int .u64 1099511627776, .int .u64 0] 37 (0, 0)) := heap_setCell_same _ _ _ _ _ _ y1
  have hg4 : W2.grownBy ((V2.setCell ⟨w.heap.size, 0, none⟩ (.int .u64 1099511627776)).setCell ⟨w.heap.size, 1, none⟩ (.int .u64 0)) (some w.heap.size) := only_setCell (only_setCell HG2.out (.inl rfl) _) (.inl rfl) _
  obtain ⟨s1, s2, s3⟩ := HS2.out.others hg4 (fun g hg => by injection hg with hg; subst hg; exact ⟨HX2.out.2, HN.out⟩)
  have HG4 := Lib.hid hg4
  have HY := Lib.hid y2
  have HFIN : Hid (∃ K, SpOk ((V2.setCell ⟨w.heap.size, 0, none⟩ (.int .u64 1099511627776)).setCell ⟨w.heap.size, 1, none⟩ (.int .u64 0)) B S km A Mo (σ.know K) ∧ KeptS A km w ((V2.setCell ⟨w.heap.size, 0, none⟩ (.int .u64 1099511627776)).setCell ⟨w.heap.size, 1, none⟩ (.int .u64 0))) := Lib.hid ⟨K, s1, HK2.out.others hg4 (fun g hg => by injection hg with hg; omega) s2⟩
  clear y1 y2 kr hg4 s1 s2 s3
  refine mix_barS rfl (by rfl) ?_
  simp only [List.getElem_toArray, List.getElem_cons_zero, List.getElem_cons_succ]
  go_simp
  refine ⟨(fun x => W2.grownBy x (some w.heap.size)), HG4.out, fun _ h => h, ?_⟩
  refine mix_take [10] [_] rfl rfl ?_
  simp only [List.getElem_toArray, List.getElem_cons_zero, List.getElem_cons_succ]
  repeat (go_big_quiet_step (fail))
  refine wpQuiet_nil ?_
  refine mix_end ?_
  go_wp2
  exact bodyPost_ret (results_cnt2 (t1 := 4) (t3 := 5) (g := w.heap.size) Try.results9 rfl rfl HY.out) rfl ⟨rfl, HFIN.out⟩
theorem checked_nil (w : World) (a b : Value) : Calls Try.prog 19 #[.pointer none, a, b] w fun e w' => e = .returned (.int .i64 2) ∧ Below w.heap.size w w' := by
  go_enter Try.func19, Try.ntmps19
  go_wp2
  go_ret
  exact ⟨rfl, Below.refl _ _⟩
theorem image_nil (w : World) (r a : Int) : Calls Try.prog 6 #[.pointer none, .int .i64 r, .int .i64 a] w fun e w' => e = .returned (.tuple #[.int .i64 0, .int .i64 2]) ∧ Below w.heap.size w w' := by
  have hb := below2 w (.cells #[.int .i64 a] 3) (.cells #[.int .i64 r] 3)
  have HB := Lib.hid hb
  clear hb
  go_enter Try.func6, Try.ntmps6
  go_wp2_with fail
  refine (checked_nil _ _ _).mono ?_
  rintro e w1 ⟨rfl, hb1⟩
  have HB1 := Lib.hid (HB.out.trans (hb1.mono HB.out.size))
  clear hb1
  go_wp2
  go_ret2
  exact ⟨rfl, HB1.out⟩
end
end Go.Proofs.Ytcchiagclhkieaa

/-
  Used; a header's set where there is no room; nobody's space.
-/
namespace Go.Proofs.Ytcchiagclhkieaa
open Go Go.RowKit Go.ChangeMaps Go.MapKept Go.Maps Go.Lib Go.Sort

theorem bitsF_all (a o n v : Nat) (s : Nat → Bool) (h : ∀ m, m < n → v.testBit m = false) (hs : ∀ x, s x = false) : ∀ m, m ≤ n → bitsF a o n v m s = true
  | 0, _ => rfl
  | m + 1, hm => by
    unfold bitsF litF
    rw [h m (by omega), hs, bitsF_all a o n v s h hs m (by omega)]
    rfl
section
set_option maxRecDepth 100000
set_option maxHeartbeats 4000000
variable {w : World} {B S km : Nat} {A : Blks} {Mo : Nat} {σ : Sg}
theorem SpOk.no_room (h : SpOk w B S km A 0 σ) : σ.H = [] := List.eq_nil_of_length_eq_zero (Nat.le_zero.1 h.ok.mo)
/-- Where there is no room, a node is a constant. -/
theorem SpOk.low_node (h : SpOk w B S km A 0 σ) {r : Nat} {F : Fun} (hd : Den σ r F) : r < 2 := by
  rcases (h.ok.g r hd.1).2.1 with h1 | h1
  · exact h1
  · rw [h.no_room] at h1; cases h1
theorem bits_full (h : SpOk w B S km A 0 σ) {vf : FuncId} {o : Nat} (V : VarF vf o) (a n : Nat) (hn : a + n ≤ 104) (hn32 : n ≤ 32) (hn0 : 0 < n) (hl : σ.N.length + 3 * n ≤ 2147483647) :
    Calls Try.prog 16 #[.pointer (some ⟨S, 0, none⟩), .int .i64 a, .int .i64 n, .int .u64 0, .func (.func vf) #[] #[]] w fun e w' => e = .returned (.tuple #[.int .i64 0, .int .i64 3]) ∧ KeptS A km w w' ∧ ∃ τ, SpOk w' B S km A 0 τ ∧ To (3 * n) (3 * n) σ τ := by
  have h1 := bits_any h V a n 0 hn hn32 (by omega) hl
  refine h1.mono fun e w' hr => ?_
  rcases hr.2 with ⟨he, _, τ, hs, ht⟩ | ⟨r, τ, he, hs, ht, hd⟩
  · exact ⟨he, hr.1, τ, hs, ht⟩
  · exfalso
    have hlow := hs.low_node hd
    have e1 := hd.2 (fun _ => false)
    have e2 := hd.2 (fun _ => true)
    rw [bitsF_all a o n 0 _ (fun m _ => Nat.zero_testBit m) (fun _ => rfl) n (Nat.le_refl _)] at e1
    obtain ⟨m, rfl⟩ : ∃ m, n = m + 1 := ⟨n - 1, by omega⟩
    have e3 : bitsF a o (m + 1) 0 (m + 1) (fun _ => true) = false := by
      unfold bitsF litF
      rw [Nat.zero_testBit]
      rfl
    rw [e3] at e2
    obtain rfl | rfl : r = 0 ∨ r = 1 := by omega
    · have : ev τ.N (fun _ => false) 0 = false := rfl
      rw [this] at e1
      cases e1
    · have : ev τ.N (fun _ => true) 1 = true := rfl
      rw [this] at e2
      cases e2
theorem bddUsed_none {V : Nat} {N : List Nd} {G : List Nat} (hA : ArAt w B A V Mo N [] G) : Calls Try.prog 27 #[A.val] w fun e w' => e = .returned (.int .i64 0) ∧ Below w.heap.size w w' := by
  obtain ⟨nv, ha⟩ := hA
  have a6 : w.cell? ⟨A.a, 6, none⟩ = some (.map (some A.h)) := ha.cellAt rfl
  have hl : ∀ ty, (Builtin.len_ #[97] ty #[.map (some A.h)]).run Try.prog w = .ok (.int .i64 0) w := fun ty => ha.held.len Try.underlying97 ty
  clear ha
  unfold Blks.val
  go_enter Try.func27, Try.ntmps27
  go_wp2
  go_ret
  exact ⟨rfl, Below.refl _ _⟩
theorem relUsed_none (h : SpOk w B S km A 0 σ) : Calls Try.prog 10 #[.pointer (some ⟨S, 0, none⟩)] w fun e w' => e = .returned (.int .i64 0) ∧ Below w.heap.size w w' := by
  have c0 := h.sp.c0
  have ha := h.sp.ar
  rw [h.no_room] at ha
  have hu := bddUsed_none ha
  unfold Blks.val at hu
  have HU := Lib.hid hu
  clear h ha hu
  go_enter Try.func10, Try.ntmps10
  go_wp2_with fail
  refine HU.out.mono ?_
  rintro e w1 ⟨rfl, hb1⟩
  have HB1 := Lib.hid hb1
  clear hb1
  go_wp2
  go_ret
  exact ⟨rfl, HB1.out⟩
theorem relUsed_nil (w : World) : Calls Try.prog 10 #[.pointer none] w fun e w' => e = .returned (.int .i64 0) ∧ Below w.heap.size w w' := by
  go_enter Try.func10, Try.ntmps10
  go_wp2
  go_ret
  exact ⟨rfl, Below.refl _ _⟩
theorem header_nil (w : World) : Calls Try.prog 5 #[.pointer none, .agg #[.int .u32 0, .int .u32 0, .int .u8 0, .int .u16 0, .int .u16 0]] w fun e w' => e = .returned (.tuple #[.int .i64 0, .int .i64 2]) ∧ Below w.heap.size w w' := by
  have HB := Lib.hid (below1 w (.cells #[.int .u32 0, .int .u32 0, .int .u8 0, .int .u16 0, .int .u16 0] 30))
  go_enter Try.func5, Try.ntmps5
  go_wp2
  go_ret2
  exact ⟨rfl, HB.out⟩
theorem header_full (h : SpOk w B S km A 0 σ) (hl : σ.N.length + 48 ≤ 2147483647) :
    Calls Try.prog 5 #[.pointer (some ⟨S, 0, none⟩), .agg #[.int .u32 0, .int .u32 0, .int .u8 0, .int .u16 0, .int .u16 0]] w fun e w' => e = .returned (.tuple #[.int .i64 0, .int .i64 3]) ∧ KeptS A km w w' ∧ ∃ τ, SpOk w' B S km A 0 τ ∧ To 48 48 σ τ := by
  have hb := below1 w (.cells #[.int .u32 0, .int .u32 0, .int .u8 0, .int .u16 0, .int .u16 0] 30)
  have hk := blk1 w (.cells #[.int .u32 0, .int .u32 0, .int .u8 0, .int .u16 0, .int .u16 0] 30)
  have HS := Lib.hid (h.below hb)
  have HK := Lib.hid (h.kept hb)
  have d0 : (w.alloc (.cells #[.int .u32 0, .int .u32 0, .int .u8 0, .int .u16 0, .int .u16 0] 30)).cell? ⟨w.heap.size, 0, none⟩ = some (.int .u32 0) := cell_of_row _ _ 0 _ _ (0, 0) hk
  have d1 : (w.alloc (.cells #[.int .u32 0, .int .u32 0, .int .u8 0, .int .u16 0, .int .u16 0] 30)).cell? ⟨w.heap.size, 1, none⟩ = some (.int .u32 0) := cell_of_row _ _ 1 _ _ (0, 0) hk
  have d2 : (w.alloc (.cells #[.int .u32 0, .int .u32 0, .int .u8 0, .int .u16 0, .int .u16 0] 30)).cell? ⟨w.heap.size, 2, none⟩ = some (.int .u8 0) := cell_of_row _ _ 2 _ _ (0, 0) hk
  have d3 : (w.alloc (.cells #[.int .u32 0, .int .u32 0, .int .u8 0, .int .u16 0, .int .u16 0] 30)).cell? ⟨w.heap.size, 3, none⟩ = some (.int .u16 0) := cell_of_row _ _ 3 _ _ (0, 0) hk
  have d4 : (w.alloc (.cells #[.int .u32 0, .int .u32 0, .int .u8 0, .int .u16 0, .int .u16 0] 30)).cell? ⟨w.heap.size, 4, none⟩ = some (.int .u16 0) := cell_of_row _ _ 4 _ _ (0, 0) hk
  clear hb hk h
  go_enter Try.func5, Try.ntmps5
  go_upto_region 1 with fail
  generalize w.alloc (.cells #[.int .u32 0, .int .u32 0, .int .u8 0, .int .u16 0, .int .u16 0] 30) = w1 at *
  go_upto_region 5 with fail
  clear d0 d1 d2 d3 d4
  have hb2 := below1 w1 (.cells #[.int .u64 0, .int .u64 0, .int .u64 0, .int .u64 0, .int .u64 0] 35)
  have k2 := blk1 w1 (.cells #[.int .u64 0, .int .u64 0, .int .u64 0, .int .u64 0, .int .u64 0] 35)
  have HS2 := Lib.hid (HS.out.below hb2)
  have HK2 := Lib.hid (HK.out.trans (HS.out.kept hb2))
  have HV := Lib.hid k2
  have HF2 := Lib.hid (HS.out.sp.ar.foreign_new hb2 (Nat.le_refl _) (lt_of_block k2))
  have HN2 : Hid (w1.heap.size ≠ km) := Lib.hid (by have := HS.out.sp.fk.1; omega)
  clear hb2 k2 HS HK
  go_wp2
  go_loopw [6, 8] (fun f i wr => f = .int .i64 1 ∧ i = .int .i64 4 ∧ wr = w1.alloc (.cells #[.int .u64 0, .int .u64 0, .int .u64 0, .int .u64 0, .int .u64 0] 35)) (fun _ _ _ => 0)
  case atStart => exact ⟨rfl, rfl, rfl⟩
  case round =>
    obtain ⟨rfl, rfl, rfl⟩ := hrel
    generalize w1.alloc (.cells #[.int .u64 0, .int .u64 0, .int .u64 0, .int .u64 0, .int .u64 0] 35) = w2 at *
    have hpp := (parts_at w2 4 (by omega))
    have e1 : ((fAt 4 : Nat) : Int) = 88 := rfl
    have e2 : ((fBits 4 : Nat) : Int) = 16 := rfl
    obtain ⟨p0, p1⟩ := hpp
    rw [e1] at p0
    rw [e2] at p1
    have p0 : (w2.alloc partsObj).cell? ⟨w2.heap.size, 8, none⟩ = some (.int .i64 88) := p0
    have p1 : (w2.alloc partsObj).cell? ⟨w2.heap.size, 9, none⟩ = some (.int .i64 16) := p1
    go_upto_region 9 with ((with_reducible refine (parts_any _).mono ?_); rintro e _ ⟨rfl, rfl⟩)
    clear p0 p1 e1 e2
    have hb3 := below2 w2 partsObj (.cells #[.int .i64 88, .int .i64 16] 59)
    have k3 := (blk2 w2 partsObj (.cells #[.int .i64 88, .int .i64 16] 59)).2
    have hwd : Below w2.heap.size w2 { (w2.alloc partsObj).alloc (.cells #[.int .i64 88, .int .i64 16] 59) with drawn := ((w2.alloc partsObj).alloc (.cells #[.int .i64 88, .int .i64 16] 59)).drawn + 1 } := ⟨hb3.os, hb3.tape, hb3.output, hb3.size, hb3.block⟩
    have hlt3 := lt_of_block k3
    have HS3 := Lib.hid (HS2.out.below hwd)
    have HK3 := Lib.hid (HK2.out.trans (HS2.out.kept hwd))
    have HV3 := Lib.hid ((hwd.block _ (lt_of_block HV.out)).trans HV.out)
    have HF3 := Lib.hid ((HS2.out.kept hwd).same _ HF2.out HN2.out).2
    have HG3 := Lib.hid (HS2.out.sp.ar.foreign_new hwd (k := w2.heap.size + 1) (by omega) hlt3)
    have HN3 : Hid (w2.heap.size + 1 ≠ km) := Lib.hid (by have := HS2.out.sp.fk.1; omega)
    have K3 := Lib.hid k3
    refine wp_region_mixS (KeptS A km { (w2.alloc partsObj).alloc (.cells #[.int .i64 88, .int .i64 16] 59) with drawn := ((w2.alloc partsObj).alloc (.cells #[.int .i64 88, .int .i64 16] 59)).drawn + 1 }) [(0, false), (1, false), (2, false), (3, false), (4, false), (5, false), (6, false), (7, false), (8, false), (9, true), (10, false), (11, false), (12, false), (13, false), (14, false)] (by kernel_rfl) (by kernel_rfl) (KeptS.refl _ _ _) ?_
    have K3' : Hid ({ (w2.alloc partsObj).alloc (.cells #[.int .i64 88, .int .i64 16] 59) with drawn := ((w2.alloc partsObj).alloc (.cells #[.int .i64 88, .int .i64 16] 59)).drawn + 1 }.heap[w2.heap.size + 1]? = some (.cells #[.int .i64 88, .int .i64 16] 59 (0, 0))) := Lib.hid K3.out
    clear hb3 k3 hwd hlt3 K3 HS2 HK2 HV HF2
    generalize { (w2.alloc partsObj).alloc (.cells #[.int .i64 88, .int .i64 16] 59) with drawn := ((w2.alloc partsObj).alloc (.cells #[.int .i64 88, .int .i64 16] 59)).drawn + 1 } = V0 at *
    have d0 : ∀ p : InW (KeptS A km V0), p.w.cell? ⟨w2.heap.size + 1, 0, none⟩ = some (.int .i64 88) := fun p => by rw [cell_of_row _ _ 0 _ _ (0, 0) ((p.h.same _ HG3.out HN3.out).1.trans K3'.out)]; rfl
    have d1 : ∀ p : InW (KeptS A km V0), p.w.cell? ⟨w2.heap.size + 1, 1, none⟩ = some (.int .i64 16) := fun p => by rw [cell_of_row _ _ 1 _ _ (0, 0) ((p.h.same _ HG3.out HN3.out).1.trans K3'.out)]; rfl
    have d2 : ∀ p : InW (KeptS A km V0), p.w.cell? ⟨w1.heap.size, 4, none⟩ = some (.int .u64 0) := fun p => by rw [cell_of_row _ _ 4 _ _ (0, 0) ((p.h.same _ HF3.out HN2.out).1.trans HV3.out)]; rfl
    refine mix_take [0, 1, 2, 3, 4, 5, 6, 7, 8] [_, _, _, _, _, _, _, _, _] rfl rfl ?_
    simp only [List.getElem_toArray, List.getElem_cons_zero, List.getElem_cons_succ]
    repeat (go_big_quiet_step (fail))
    refine wpQuiet_nil ?_
    clear d0 d1 d2
    refine mix_barS rfl (by rfl) ?_
    simp only [List.getElem_toArray, List.getElem_cons_zero, List.getElem_cons_succ]
    go_simp
    have HBITS := Lib.hid (show Calls Try.prog 16 #[.pointer (some ⟨S, 0, none⟩), .int .i64 88, .int .i64 16, .int .u64 0, .func (.func 17) #[] #[]] V0 (fun e w' => e = .returned (.tuple #[.int .i64 0, .int .i64 3]) ∧ KeptS A km V0 w' ∧ ∃ τ, SpOk w' B S km A 0 τ ∧ To 48 48 σ τ) from bits_full HS3.out nowF 88 16 (by omega) (by omega) (by omega) (by omega))
    refine HBITS.out.mono ?_
    rintro e W5 ⟨rfl, hk5, hs5⟩
    have HFIN := Lib.hid (And.intro (HK3.out.trans hk5) hs5)
    refine ⟨KeptS A km V0, hk5, fun _ h => h, ?_⟩
    clear hk5 hs5 HBITS
    refine mix_take [10, 11, 12, 13, 14] [_, _, _, _, _] rfl rfl ?_
    simp only [List.getElem_toArray, List.getElem_cons_zero, List.getElem_cons_succ]
    repeat (go_big_quiet_step (fail))
    refine wpQuiet_nil ?_
    refine mix_end ?_
    go_wp2
    go_ret2
    exact ⟨rfl, HFIN.out⟩
end
end Go.Proofs.Ytcchiagclhkieaa

/-
  The walk of the law RelNames.
-/
namespace Go.Proofs.Ytcchiagclhkieaa
open Go Go.RowKit Go.ChangeMaps Go.MapKept Go.Maps Go.Lib Go.Sort

section
set_option maxRecDepth 100000
set_option maxHeartbeats 8000000
variable {w : World} {B S km : Nat} {A : Blks} {σ : Sg}
theorem not_zero (h : SpOk w B S km A 0 σ) (hl : σ.N.length ≤ 2147483647) : Calls Try.prog 8 #[.pointer (some ⟨S, 0, none⟩), .int .i64 0] w fun e w' => e = .returned (.tuple #[.int .i64 1, .int .i64 0]) ∧ KeptS A km w w' ∧ ∃ τ, SpOk w' B S km A 0 τ := by
  have h1 := relNot_yes h (Den.zero h.ok) (SetF.const false) (a := 0) (b := 0) (Den.grow (Den.one h.ok) h.ok) (by omega)
  refine h1.mono fun e w' hr => ?_
  rcases hr.2 with ⟨_, hlt, _⟩ | ⟨r, τ, he, hs, ht, hd⟩
  · rw [h.no_room] at hlt
    exact absurd hlt (by simp)
  · obtain rfl : r = 1 := hd.same (Den.one hs.ok) hs.ok
    exact ⟨he, hr.1, τ, hs⟩
theorem lawRlNm_any (w : World) : Calls Try.prog 3 #[] w fun e w' => e = .returned (.bool true) ∧ Below w.heap.size w w' := by
  have HHN := Lib.hid (header_nil w)
  go_enter Try.func3, Try.ntmps3
  go_upto_region 3 with ((with_reducible refine HHN.out.mono ?_); rintro e w1 ⟨rfl, hb1⟩; have HB1 := Lib.hid hb1; clear hb1)
  have HIN := Lib.hid (image_nil w1 0 0)
  go_upto_region 4 with ((with_reducible refine HIN.out.mono ?_); rintro e w2 ⟨rfl, hb2⟩; have HB2 := Lib.hid (HB1.out.trans (hb2.mono HB1.out.size)); clear hb2)
  have HNEW := Lib.hid (show Calls Try.prog 7 #[.int .i64 0] w2 (fun e w' => ∃ (S km : Nat) (A : Blks), e = .returned (.tuple #[.pointer (some ⟨S, 0, none⟩), .int .i64 0]) ∧ SpAt w' w2.heap.size S km A 0 N0 [] [0, 1] [] ∧ Below w2.heap.size w2 w' ∧ w2.heap.size ≤ S ∧ w2.heap.size ≤ km) from relNew_any w2 0 (Nat.zero_le _))
  go_upto_region 5 with ((with_reducible refine HNEW.out.mono ?_); rintro e w3 ⟨S, km, A, rfl, hs3, hb3, hS3, hkm3⟩; have HS3 := Lib.hid hs3.newOk; have HB3 := Lib.hid (HB2.out.trans (hb3.mono HB2.out.size)); have HLO := Lib.hid (And.intro hS3 hkm3); clear hs3 hb3 hS3 hkm3)
  have HBAD := Lib.hid (relNew_bad w3 4194305 (by omega) (by omega))
  go_upto_region 8 with ((with_reducible refine HBAD.out.mono ?_); rintro e w4 ⟨rfl, hb4⟩; have HS4 := Lib.hid (HS3.out.below hb4); have HB4 := Lib.hid (HB3.out.trans (hb4.mono HB3.out.size)); clear hb4)
  clear HHN HIN HNEW HBAD HS3 HB1 HB3
  have HHF := Lib.hid (header_full HS4.out (by have h2 : newSg.N.length = 2 := rfl; omega))
  go_upto_region 9 with ((with_reducible refine HHF.out.mono ?_); rintro e w5 ⟨rfl, hk5, τ5, hs5, ht5⟩; have HS5 := Lib.hid hs5; have HK5 := Lib.hid hk5; have HT5 := Lib.hid ht5; clear hs5 hk5 ht5)
  have HNO := Lib.hid (not_zero HS5.out (by have h1 := HT5.out.nl; have h2 : newSg.N.length = 2 := rfl; omega))
  go_upto_region 10 with ((with_reducible refine HNO.out.mono ?_); rintro e w6 ⟨rfl, hk6, τ6, hs6⟩; have HS6 := Lib.hid hs6; have HK6 := Lib.hid (HK5.out.trans hk6); clear hs6 hk6)
  have HCO := Lib.hid (relCount_one HS6.out)
  unfold SpSame at HCO
  go_upto_region 11 with ((with_reducible refine HCO.out.mono ?_); rintro e w7 ⟨rfl, K7, hs7, hk7⟩; have HS7 := Lib.hid hs7; have HK7 := Lib.hid (HK6.out.trans hk7); clear hs7 hk7)
  clear HHF HNO HCO
  have hlow := HS4.out.low HLO.out.2 HK7.out
  have hb8 := below1 w7 (.cells #[.int .u64 1099511627776, .int .u64 0] 37)
  have k8 := blk1 w7 (.cells #[.int .u64 1099511627776, .int .u64 0] 37)
  have HS8 := Lib.hid (HS7.out.below hb8)
  have hle : w.heap.size ≤ w2.heap.size := HB2.out.size
  have HB8 := Lib.hid (HB4.out.trans ((hlow.trans (hb8.mono (Nat.le_trans (by have := HS4.out.low HLO.out.2 (KeptS.refl A km w4); exact Nat.le_of_lt (Nat.lt_of_le_of_lt HLO.out.1 (lt_of_block HS4.out.sp.cells))) HK7.out.size))).mono hle))
  have HK8 := Lib.hid k8
  clear hlow hb8 k8 hle
  clear HS4 HB4 HS5 HK5 HT5 HS6 HK6 HS7 HK7
  generalize w7.alloc (.cells #[.int .u64 1099511627776, .int .u64 0] 37) = w8 at *
  have HU1 := Lib.hid (relUsed_nil w8)
  go_wp2_with fail
  refine HU1.out.mono ?_
  rintro e w9 ⟨rfl, hb9⟩
  obtain ⟨c0, c1, _, _⟩ := two_cells (blk_below hb9 HK8.out)
  have HU2 := Lib.hid (relUsed_none (HS8.out.below hb9))
  have HB9 := Lib.hid (HB8.out.trans (hb9.mono HB8.out.size))
  clear hb9 HU1
  go_wp2_with fail
  refine HU2.out.mono ?_
  rintro e w10 ⟨rfl, hb10⟩
  have HB10 := Lib.hid (HB9.out.trans (hb10.mono HB9.out.size))
  clear hb10 HU2 c0 c1
  go_wp2
  go_ret
  exact ⟨rfl, HB10.out⟩
end
end Go.Proofs.Ytcchiagclhkieaa
