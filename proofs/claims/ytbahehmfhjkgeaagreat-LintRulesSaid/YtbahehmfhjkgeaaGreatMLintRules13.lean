/-
  Joined texts: LawLnRu, LawFD, Elem1.
-/
import Derived.Test.YtbahehmfhjkgeaaGreatMLintRules4
import Derived.Test.YtbahehmfhjkgeaaGreatMLintRules12
import Derived.Deep.DeepCutAuto
import Derived.Deep.RegionLawGrows
import Derived.Deep.RegionHeldLaw
import Derived.Deep.RegionHeld3
import Derived.Test.YtbahehmfhjkgeaaGreatMLintRules7
import Derived.Deep.Fields
/-
  The walk of the law LintRules.
-/
namespace Go.Proofs.YtbahehmfhjkgeaaGreat
open Go Go.RowKit Go.ChangeMaps Go.MapKept Go.Maps Go.Lib Go.Sort

section
set_option maxRecDepth 100000
set_option maxHeartbeats 16000000
theorem filtE_or (L : List RuleV) : filtE L = 0 ∨ filtE L = 121 := by
  unfold filtE
  split
  · exact .inr rfl
  · split
    · exact .inr rfl
    · exact .inl rfl
/-- filter.Rules, of a filter that may not be. -/
theorem rules_bad (w : World) (a : Addr) (nm : ByteArray) (L : List RuleV) (vL : Value) (hL : Rd w w.heap.size 10 vL L.length (rcells L)) (he : filtE L = 121) :
    Calls Tryz.prog 11 #[.pointer (some a), .agg #[.string nm, vL]] w fun e w' => e = .returned (.tuple #[.slice none 0 0, .int .i64 121]) ∧ Below w.heap.size w w' := by
  obtain ⟨PL, cL, rfl, _⟩ := hL.form
  have hbw := below1 w (.cells #[.string nm, .slice PL L.length cL] 24)
  have hbk := blk1 w (.cells #[.string nm, .slice PL L.length cL] 24)
  have b0 : (w.alloc (.cells #[.string nm, .slice PL L.length cL] 24)).cell? ⟨w.heap.size, 0, none⟩ = some (.string nm) := cell_of_row _ _ 0 _ _ (0, 0) hbk
  have b1 : (w.alloc (.cells #[.string nm, .slice PL L.length cL] 24)).cell? ⟨w.heap.size, 1, none⟩ = some (.slice PL L.length cL) := cell_of_row _ _ 1 _ _ (0, 0) hbk
  have hck := filtCheck_any nm L _ _ ((hL.below hbw).mono hbw.size)
  rw [he] at hck
  have HCK := Lib.hid hck
  have HB0 := Lib.hid hbw
  clear hL he hbw hbk hck
  go_enter Tryz.func11, Tryz.ntmps11
  go_upto_region 1 with fail
  generalize w.alloc (.cells #[.string nm, .slice PL L.length cL] 24) = w0 at *
  go_wp2_with ((with_reducible refine HCK.out.mono ?_); rintro e w2 ⟨rfl, hb2⟩; have HB2 := Lib.hid (HB0.out.trans (hb2.mono HB0.out.size)); clear hb2)
  go_ret2
  exact ⟨rfl, HB2.out⟩
/-- lint.Rules, of a filter that may not be. -/
theorem lintRules_bad (w : World) (nm : ByteArray) (L : List RuleV) (vL : Value) (hL : Rd w w.heap.size 10 vL L.length (rcells L)) (he : filtE L = 121) :
    Calls Tryz.prog 16 #[.agg #[.string nm, vL]] w fun e w' => e = .returned (.tuple #[.slice none 0 0, .int .i64 121]) ∧ Below w.heap.size w w' := by
  obtain ⟨PL, cL, rfl, _⟩ := hL.form
  have hbw := below1 w (.cells #[.string nm, .slice PL L.length cL] 24)
  have hkw := blk1 w (.cells #[.string nm, .slice PL L.length cL] 24)
  have HL := Lib.hid (hL.below hbw)
  have HB0 := Lib.hid hbw
  have HK0 := Lib.hid hkw
  have HE := Lib.hid he
  clear hL hbw hkw he
  go_enter Tryz.func16, Tryz.ntmps16
  go_upto_region 1 with fail
  generalize w.alloc (.cells #[.string nm, .slice PL L.length cL] 24) = w0 at *
  have HNEW := Lib.hid (show Calls Tryz.prog 8 #[.int .i64 4194304] w0 (fun e w' => ∃ (S km : Nat) (A : Blks), e = .returned (.tuple #[.pointer (some ⟨S, 0, none⟩), .int .i64 0]) ∧ SpAt w' w0.heap.size S km A 4194304 N0 [] [0, 1] [] ∧ Below w0.heap.size w0 w' ∧ w0.heap.size ≤ S ∧ w0.heap.size ≤ km) from relNew_any w0 4194304 (Nat.le_refl _))
  go_upto_region 2 with ((with_reducible refine HNEW.out.mono ?_); rintro e w1 ⟨S, km, A, rfl, hs1, hb1, hS1, hkm1⟩; have HB1 := Lib.hid hb1; clear hs1 hb1 hS1 hkm1)
  clear HNEW
  have b0 : w1.cell? ⟨w.heap.size, 0, none⟩ = some (.string nm) := cell_of_row _ _ 0 _ _ (0, 0) (blk_below HB1.out HK0.out)
  have b1 : w1.cell? ⟨w.heap.size, 1, none⟩ = some (.slice PL L.length cL) := cell_of_row _ _ 1 _ _ (0, 0) (blk_below HB1.out HK0.out)
  have HBD := Lib.hid (rules_bad w1 ⟨S, 0, none⟩ nm L _ (((HL.out.mono HB0.out.size).below HB1.out).mono HB1.out.size) HE.out)
  have HB01 := Lib.hid (HB0.out.trans (HB1.out.mono HB0.out.size))
  go_wp2_with ((with_reducible refine HBD.out.mono ?_); rintro e w2 ⟨rfl, hb2⟩; have HB2 := Lib.hid (HB01.out.trans (hb2.mono HB01.out.size)); clear hb2)
  go_ret2
  exact ⟨rfl, HB2.out⟩
theorem lawLnRu_any (nm : ByteArray) (M : List RuleV) (vL : Value) (w : World) (hL : Rd w w.heap.size 10 vL M.length (rcells M)) :
    Calls Tryz.prog 4 #[.agg #[.string nm, vL]] w fun e w' => e = .returned (.bool true) ∧ Below w.heap.size w w' := by
  obtain ⟨j0, jif, jz0, jz1, jz2⟩ := info_parts Tryz.infoRuleF
  obtain ⟨A, c, rfl, hc⟩ := hL.form
  have hb := below1 w (.cells #[.string nm, .slice A M.length c] 24)
  have HB0 := Lib.hid hb
  have HK0 := Lib.hid (blk1 w (.cells #[.string nm, .slice A M.length c] 24))
  have HL0 := Lib.hid hL
  clear hb hL
  go_enter Tryz.func4, Tryz.ntmps4
  go_upto_region 1 with fail
  generalize w.alloc (.cells #[.string nm, .slice A M.length c] 24) = w0 at *
  have c1 : w0.cell? ⟨w.heap.size, 1, none⟩ = some (.slice A M.length c) := cell_of_row _ _ 1 _ _ (0, 0) HK0.out
  by_cases hbig : 10 < M.length
  · have hI : (10 : Int) < (M.length : Int) := by omega
    have hI2 : (M.length : Int) > 10 := by omega
    go_wp2_with ((with_reducible refine (lawAwake30_any _).mono ?_); rintro e w1 ⟨rfl, hb1⟩; have HB1 := Lib.hid (HB0.out.trans (hb1.mono HB0.out.size)); clear hb1)
    go_ret
    exact ⟨rfl, HB1.out⟩
  have hM : M.length ≤ 12 := by omega
  have hI2 : ¬ (M.length : Int) > 10 := by omega
  go_upto_region 3 with ((with_reducible refine (lawAwake30_any _).mono ?_); rintro e w1 ⟨rfl, hb1⟩; have HB1 := Lib.hid (HB0.out.trans (hb1.mono HB0.out.size)); have HK1 := Lib.hid (blk_below hb1 HK0.out); clear hb1)
  have HL1 := Lib.hid (HL0.out.below (HB1.out))
  clear HB0 HK0 HL0 c1
  have HNEW := Lib.hid (show Calls Tryz.prog 8 #[.int .i64 4194304] w1 (fun e w' => ∃ (S km : Nat) (A : Blks), e = .returned (.tuple #[.pointer (some ⟨S, 0, none⟩), .int .i64 0]) ∧ SpAt w' w1.heap.size S km A 4194304 N0 [] [0, 1] [] ∧ Below w1.heap.size w1 w' ∧ w1.heap.size ≤ S ∧ w1.heap.size ≤ km) from relNew_any w1 4194304 (Nat.le_refl _))
  go_upto_region 6 with ((with_reducible refine HNEW.out.mono ?_); rintro e w3 ⟨S, km, AA, rfl, hs3, hb3, hS3, hkm3⟩; have HF3 : Hid (FoB w w1.heap.size nm A c M S km AA 0 newSg w3) := Lib.hid ⟨hs3.newOk, Nat.le_refl _, Nat.le_refl _, blk_below hb3 HK1.out, HL1.out.below (hb3.mono HB1.out.size), HB1.out.trans (hb3.mono HB1.out.size), lt_of_block HK1.out, hkm3⟩; clear hs3 hS3 hkm3 hb3)
  clear HNEW HL1 HB1 HK1
  have c0 : w3.cell? ⟨w.heap.size, 0, none⟩ = some (.string nm) := cell_of_row _ _ 0 _ _ (0, 0) HF3.out.row
  have c1 : w3.cell? ⟨w.heap.size, 1, none⟩ = some (.slice A M.length c) := cell_of_row _ _ 1 _ _ (0, 0) HF3.out.row
  rcases filtE_or M with he | he
  case inr =>
    have HRB := Lib.hid (lintRules_bad w3 nm M _ (HF3.out.rd.mono HF3.out.bel.size) he)
    have hck := fun (W : World) (hb : Below w3.heap.size w3 W) => refFiltCheck_any nm M (.slice A M.length c) W (((HF3.out.rd.mono HF3.out.bel.size).below hb).mono hb.size)
    rw [he] at hck
    have HCK := Lib.hid hck
    clear hck
    go_upto_region 7 with ((with_reducible refine HRB.out.mono ?_); rintro e w4 ⟨rfl, hb4⟩; have HB4 := Lib.hid hb4; clear hb4)
    have d0 : w4.cell? ⟨w.heap.size, 0, none⟩ = some (.string nm) := cell_of_row _ _ 0 _ _ (0, 0) (blk_below HB4.out HF3.out.row)
    have d1 : w4.cell? ⟨w.heap.size, 1, none⟩ = some (.slice A M.length c) := cell_of_row _ _ 1 _ _ (0, 0) (blk_below HB4.out HF3.out.row)
    have HB34 : Hid (Below w.heap.size w w4) := Lib.hid (HF3.out.bel.trans (HB4.out.mono HF3.out.bel.size))
    go_wp2_with ((with_reducible refine (HCK.out _ HB4.out).mono ?_); rintro e w5 ⟨rfl, hb5⟩; have HB5 := Lib.hid (HB34.out.trans (hb5.mono HB34.out.size)); clear hb5)
    go_ret
    exact ⟨rfl, HB5.out⟩
  have HE := Lib.hid he
  have HRG := Lib.hid (lintRules_c w3 nm M _ (HF3.out.rd.mono HF3.out.bel.size) he hM)
  clear he
  go_upto_region 7 with ((with_reducible refine HRG.out.mono ?_); rintro e w4 ⟨vZ, rfl, ho4, hb4⟩; have hof := HF3.out.newF hb4 ho4 (Nat.le_refl _); obtain ⟨AZ, cZ, hvZ, _⟩ := owns_form ho4; subst hvZ; have HF4 := Lib.hid (HF3.out.next hb4); have HZ4 := Lib.hid (RdL.of_own ho4 hof (Nat.le_refl _)); clear ho4 hb4 hof)
  clear c0 c1 HRG HF3
  have c0 : w4.cell? ⟨w.heap.size, 0, none⟩ = some (.string nm) := cell_of_row _ _ 0 _ _ (0, 0) HF4.out.row
  have c1 : w4.cell? ⟨w.heap.size, 1, none⟩ = some (.slice A M.length c) := cell_of_row _ _ 1 _ _ (0, 0) HF4.out.row
  have hck := refFiltCheck_any nm M (.slice A M.length c) w4 (HF4.out.rd.mono HF4.out.bel.size)
  rw [HE.out] at hck
  have HCK := Lib.hid hck
  clear hck
  go_upto_region 9 with ((with_reducible refine HCK.out.mono ?_); rintro e w5 ⟨rfl, hb5⟩; have HZ5 := Lib.hid (HZ4.out.kept (HF4.out.sp.kept hb5)); have HF5 := Lib.hid (HF4.out.next hb5); have HS5 := Lib.hid hb5.size; clear hb5)
  clear c0 c1 HCK HF4
  have c0 : w5.cell? ⟨w.heap.size, 0, none⟩ = some (.string nm) := cell_of_row _ _ 0 _ _ (0, 0) HF5.out.row
  have c1 : w5.cell? ⟨w.heap.size, 1, none⟩ = some (.slice A M.length c) := cell_of_row _ _ 1 _ _ (0, 0) HF5.out.row
  have HSE := Lib.hid (HF5.out.firstK HE.out hM)
  go_upto_region 10 with ((with_reducible refine HSE.out.mono ?_); rintro e w6 ⟨a, σ6, rfl, hf6, hk6, hks6⟩; have HF6 := Lib.hid hf6; have HK6 := Lib.hid hk6; have HZ6 := Lib.hid (HZ5.out.kept hks6); have HS6 := Lib.hid hks6.size; clear hf6 hk6 hks6)
  clear c0 c1 HSE HZ5 HF5
  have c0 : w6.cell? ⟨w.heap.size, 0, none⟩ = some (.string nm) := cell_of_row _ _ 0 _ _ (0, 0) HF6.out.row
  have c1 : w6.cell? ⟨w.heap.size, 1, none⟩ = some (.slice A M.length c) := cell_of_row _ _ 1 _ _ (0, 0) HF6.out.row
  have HRU := Lib.hid (HF6.out.rulesK HK6.out HE.out hM (by omega))
  have HW6 : Hid (w4.heap.size ≤ w6.heap.size) := Lib.hid (Nat.le_trans HS5.out HS6.out)
  go_upto_region 11 with ((with_reducible refine HRU.out.mono ?_); rintro e w7 ⟨vN, ns, σ7, rfl, hf7, hk7, hln, hdn, hon, hks7, hof7⟩; obtain ⟨AN, cN, hvN, _⟩ := owns_form hon; subst hvN; have HF7 := Lib.hid hf7; have HK7 := Lib.hid hk7; have HLN := Lib.hid hln; have HDN : Hid (∀ i n, ns[i]? = some n → zF (decF M i) = decide (n = 0)) := Lib.hid (fun i n hi => (hdn i n hi).z hf7.sp.ok); have HN7 := Lib.hid (RdL.of_own hon hof7 (Nat.le_refl _)); have HZ7 := Lib.hid ((HZ6.out.kept hks7).mono (Nat.le_trans HW6.out hks7.size)); clear hf7 hk7 hln hdn hon hks7 hof7)
  clear c0 c1 HRU HF6 HK6 HZ6 HS5 HS6 HW6
  go_upto_region 14 with fail
  have HI := Lib.hid (LrSt.start HF7.out HN7.out HZ7.out)
  clear HN7 HZ7
  generalize w7.alloc (.cells #[.string ⟨#[]⟩, .slice none 0 0] 24) = w8 at *
  obtain ⟨zs, hzs⟩ : ∃ zs, zerosP M M.length = zs := ⟨_, rfl⟩
  have HZS : Hid (∀ i, i < M.length → hasZ zs i = zF (decF M i)) := Lib.hid fun i hi => by rw [← hzs]; exact hasZ_zeros M hi
  have hzl : zs.length ≤ 12 := by rw [← hzs]; exact Nat.le_trans (zerosP_len M M.length) hM
  rw [hzs] at HI ⊢
  clear hzs
  go_wp2
  go_loopw [11] (fun i wr => ∃ (k : Nat) (τ : Sg) (vq : Value), i = .int .i64 k ∧ k ≤ M.length ∧ Hid (LrSt w w1.heap.size nm A c M S km AA w7.heap.size (.slice AN ns.length cN) ns (.slice AZ zs.length cZ) zs (1904088 + k * 81120) τ vq (keepR (dz M) M k) wr) ∧ Hid (FoK τ M a)) (fun i _ => M.length - (intOf i).toNat)
  case atStart => exact ⟨0, σ7, _, rfl, by omega, HI, HK7⟩
  case round =>
    obtain ⟨k, τ, vq, rfl, hk, HO, HK⟩ := hrel
    have c1 : wr.cell? ⟨w.heap.size, 1, none⟩ = some (.slice A M.length c) := cell_of_row _ _ 1 _ _ (0, 0) HO.out.f.row
    by_cases hlt : k < M.length
    case neg =>
      obtain rfl : k = M.length := by omega
      have hQl := keepR_len (dz M) M M.length
      have HQE : Hid (filtE (keepR (dz M) M M.length) = 0) := Lib.hid (filtE_of (by omega) fun r hr => filtE_may HE.out r (keepR_mem hr))
      have HQZ : Hid (zerosP (keepR (dz M) M M.length) (keepR (dz M) M M.length).length = []) := Lib.hid (zeros_keep fun _ _ => rfl)
      have hSL := fun n1 => HO.out.f.less HK.out HE.out hM (by omega) dz_none n1 vq (RdF.of_ownR HO.out.own HO.out.of)
      obtain ⟨Q, hQ⟩ : ∃ Q, keepR (dz M) M M.length = Q := ⟨_, rfl⟩
      rw [hQ] at HO HQE HQZ hQl
      clear hQ
      obtain ⟨Aq, cq, rfl, _⟩ := owns_form HO.out.own
      have HSL := Lib.hid hSL
      clear hSL
      have d0 : wr.cell? ⟨w7.heap.size, 0, none⟩ = some (.string ⟨#[]⟩) := cell_of_row _ _ 0 _ _ (0, 0) HO.out.row
      have d1 : wr.cell? ⟨w7.heap.size, 1, none⟩ = some (.slice Aq Q.length cq) := cell_of_row _ _ 1 _ _ (0, 0) HO.out.row
      have hI : ¬ (M.length : Int) < (M.length : Int) := by omega
      go_upto_region 28 with ((with_reducible refine (HSL.out _).mono ?_); rintro e w10 ⟨σ10, rfl, hf10, hk10, _⟩; have HO10 := Lib.hid (HO.out.space hk10 hf10); clear hf10 hk10)
      clear d0 d1 c1 HSL HO
      have d0 : w10.cell? ⟨w7.heap.size, 0, none⟩ = some (.string ⟨#[]⟩) := cell_of_row _ _ 0 _ _ (0, 0) HO10.out.row
      have d1 : w10.cell? ⟨w7.heap.size, 1, none⟩ = some (.slice Aq Q.length cq) := cell_of_row _ _ 1 _ _ (0, 0) HO10.out.row
      have HLR := Lib.hid (lintRules_c w10 ⟨#[]⟩ Q _ (Rd.of_own HO10.out.own) HQE.out (by omega))
      go_upto_region 29 with ((with_reducible refine HLR.out.mono ?_); rintro e w11 ⟨v11, rfl, ho11, hb11⟩; rw [HQZ.out] at ho11; obtain ⟨A11, c11, rfl, _⟩ := owns_form ho11; have HB11 := Lib.hid (HO10.out.f.bel.trans (hb11.mono HO10.out.f.bel.size)); clear ho11 hb11)
      have ha1 : ((a : Int) == a) = true := by simp
      go_wp2
      go_ret
      exact ⟨rfl, HB11.out⟩
    have hI : (k : Int) < (M.length : Int) := by omega
    obtain ⟨q, hq⟩ : ∃ q, ns[k]? = some q := ⟨_, List.getElem?_eq_getElem (by rw [HLN.out]; exact hlt)⟩
    obtain ⟨x, hx⟩ : ∃ x, M[k]? = some x := ⟨_, List.getElem?_eq_getElem hlt⟩
    have HX := Lib.hid hx
    have HQ := Lib.hid (HDN.out k q hq)
    have hkn : (k : Int) < (ns.length : Int) := by have := HLN.out; omega
    have HHS : Hid (∀ W, Below wr.heap.size wr W → Calls Tryz.prog 17 #[.slice AZ zs.length cZ, .int .i64 k] W fun e w' => e = .returned (.bool (decide (q = 0))) ∧ Below W.heap.size W w') := Lib.hid fun W hb => (lrHas_any zs _ k W ((HO.out.zs.1.rd.below hb).mono hb.size) (by omega)).mono fun e w' h => ⟨by rw [← HQ.out, ← HZS.out k hlt]; exact h.1, by rw [h.2]; exact Below.refl _ _⟩
    obtain ⟨Pn, cn', hvn, _, _, hpn⟩ := HO.out.ns.1
    obtain ⟨bn, on, hPn, hfn, hkmn, hcn⟩ := hpn (by omega)
    injection hvn with hvn1 hvn2 hvn3
    subst hvn1 hvn3
    clear hvn2
    subst hPn
    have n0 : wr.cell? ⟨bn, on + k, none⟩ = some (.int .i64 (q : Int)) := hcn k _ (by simp [ncl, hq])
    clear hcn hq hx
    by_cases hq0 : q = 0
    · subst hq0
      rw [show decide ((0 : Nat) = 0) = true from rfl] at HHS HQ
      go_upto_region 17 with fail
      have g0 := cell_regrown n0
      clear n0
      refine wp_region_quiet_below (by kernel_rfl) (by kernel_rfl) ?_
      repeat (first | go_big_quiet_step ((with_reducible exact Calls.regrown_of (HHS.out _ (below_regrown _ _ _)))) | quiet_step ((with_reducible exact Calls.regrown_of (HHS.out _ (below_regrown _ _ _)))))
      refine wpQuiet_nil ?_
      intro w9 hw9
      have hb9 : Below wr.heap.size wr w9 := by
        obtain ⟨p, rfl⟩ := hw9
        exact below_regrown _ _ _
      clear hw9 g0
      have HO9 := Lib.hid (HO.out.next hb9)
      have HH9 := Lib.hid (HHS.out w9 hb9)
      clear hb9 HHS HO c1
      go_upto_region 21 with ((with_reducible refine HH9.out.mono ?_); rintro e w10 ⟨rfl, hb10⟩; have HO10 := Lib.hid (HO9.out.next hb10); clear hb10)
      clear HO9 HH9
      have c1 : w10.cell? ⟨w.heap.size, 1, none⟩ = some (.slice A M.length c) := cell_of_row _ _ 1 _ _ (0, 0) HO10.out.f.row
      have hb := below1 w10 (.cells #[.string ⟨#[102]⟩, .slice A M.length c] 24)
      have hkb := blk1 w10 (.cells #[.string ⟨#[102]⟩, .slice A M.length c] 24)
      have hWO := without_any _ ⟨#[102]⟩ M (.slice A M.length c) ((HO10.out.next hb).f.rd.mono (HO10.out.next hb).f.bel.size) (by omega) k hlt w10.heap.size 1 (cell_of_row _ _ 0 _ _ (0, 0) hkb) (cell_of_row _ _ 1 _ _ (0, 0) hkb)
      have HWO := Lib.hid hWO
      have HOB := Lib.hid (HO10.out.next hb)
      clear hb hkb hWO
      go_upto_region 22 with ((with_reducible refine HWO.out.mono ?_); rintro e w11 ⟨gd, cd, vd, rfl, hg0, hg1, hgl, hod, hbd⟩; rw [← keepR_one hlt] at hod; obtain ⟨Ad, cad, rfl, _⟩ := owns_form hod; have HO11 := Lib.hid (HOB.out.next hbd); have HG0 := Lib.hid hg0; have HG1 := Lib.hid hg1; have HGO := Lib.hid hod; have HBD := Lib.hid hbd; clear hg0 hg1 hod hbd)
      clear c1 HWO
      have hk6 := keepR_one_len hlt
      have hLS := fun (W : World) (hb : Below w11.heap.size w11 W) => (HO11.out.next hb).f.less HK.out HE.out hM (by omega) (D := notAt k) (fun j _ hj => by
        obtain rfl : j = k := by simpa [notAt] using hj
        exact zF_dec HQ.out) ⟨#[102]⟩ (.slice Ad (keepR (notAt k) M M.length).length cad) ((HOB.out.f.rdo HBD.out HGO.out (Nat.le_refl _)).kept (HO11.out.f.sp.kept hb))
      obtain ⟨n6, hn6⟩ : ∃ n6, (keepR (notAt k) M M.length).length = n6 := ⟨_, rfl⟩
      rw [hn6] at hk6 hLS
      have HLS := Lib.hid hLS
      clear hLS
      have hb := below1 w11 (.cells #[.string ⟨#[]⟩, .int .u8 0, .slice none 0 0, .slice none 0 0, .slice (some ⟨gd, 0, none⟩) 1 cd, .slice none 0 0, .slice none 0 0, .slice none 0 0, .slice none 0 0, .slice none 0 0, .slice none 0 0, .slice none 0 0] 62)
      have hkb := blk1 w11 (.cells #[.string ⟨#[]⟩, .int .u8 0, .slice none 0 0, .slice none 0 0, .slice (some ⟨gd, 0, none⟩) 1 cd, .slice none 0 0, .slice none 0 0, .slice none 0 0, .slice none 0 0, .slice none 0 0, .slice none 0 0, .slice none 0 0] 62)
      have hg1 : w11.cell? ⟨gd, 1, none⟩ = some (.slice Ad n6 cad) := by have := HG1.out; rw [hn6] at this; exact this
      have e4 : (w11.alloc (.cells #[.string ⟨#[]⟩, .int .u8 0, .slice none 0 0, .slice none 0 0, .slice (some ⟨gd, 0, none⟩) 1 cd, .slice none 0 0, .slice none 0 0, .slice none 0 0, .slice none 0 0, .slice none 0 0, .slice none 0 0, .slice none 0 0] 62)).cell? ⟨w11.heap.size, 4, none⟩ = some (.slice (some ⟨gd, 0, none⟩) 1 cd) := cell_of_row _ _ 4 _ _ (0, 0) hkb
      have e1 := (hb.cell (p := ⟨gd, 1, none⟩) (World.block_lt_of_cell? _ _ hg1)).trans hg1
      have e0 := (hb.cell (p := ⟨gd, 0, none⟩) (World.block_lt_of_cell? _ _ HG0.out)).trans HG0.out
      have HO12 := Lib.hid (HO11.out.next hb)
      have HS12 := Lib.hid (fun (W : World) (h : Below (w11.alloc (.cells #[.string ⟨#[]⟩, .int .u8 0, .slice none 0 0, .slice none 0 0, .slice (some ⟨gd, 0, none⟩) 1 cd, .slice none 0 0, .slice none 0 0, .slice none 0 0, .slice none 0 0, .slice none 0 0, .slice none 0 0, .slice none 0 0] 62)).heap.size (w11.alloc (.cells #[.string ⟨#[]⟩, .int .u8 0, .slice none 0 0, .slice none 0 0, .slice (some ⟨gd, 0, none⟩) 1 cd, .slice none 0 0, .slice none 0 0, .slice none 0 0, .slice none 0 0, .slice none 0 0, .slice none 0 0, .slice none 0 0] 62)) W) => HLS.out W (hb.trans (h.mono hb.size)))
      clear hb hkb hg1 HG0 HG1 HLS HGO HBD HOB HO10
      generalize w11.alloc (.cells #[.string ⟨#[]⟩, .int .u8 0, .slice none 0 0, .slice none 0 0, .slice (some ⟨gd, 0, none⟩) 1 cd, .slice none 0 0, .slice none 0 0, .slice none 0 0, .slice none 0 0, .slice none 0 0, .slice none 0 0, .slice none 0 0] 62) = w12 at *
      have c1 : w12.cell? ⟨w.heap.size, 1, none⟩ = some (.slice A M.length c) := cell_of_row _ _ 1 _ _ (0, 0) HO12.out.f.row
      have hn6I : (M.length : Int) - 1 = (n6 : Int) := by omega
      clear hk6 hn6
      have g1 := cell_regrown e1
      have g4 := cell_regrown e4
      have gc := cell_regrown c1
      have E1 := Lib.hid e1
      have E4 := Lib.hid e4
      have E0 := Lib.hid e0
      clear e1 e4 c1 e0
      refine wp_region_quiet_below (by kernel_rfl) (by kernel_rfl) ?_
      repeat (first | go_big_quiet_step (fail) | quiet_step (fail))
      refine wpQuiet_nil ?_
      intro w14 hw14
      have hb14 : Below w12.heap.size w12 w14 := by
        obtain ⟨p, rfl⟩ := hw14
        exact below_regrown _ _ _
      have e0 := (hb14.cell (p := ⟨gd, 0, none⟩) (World.block_lt_of_cell? _ _ E0.out)).trans E0.out
      have e1 := (hb14.cell (p := ⟨gd, 1, none⟩) (World.block_lt_of_cell? _ _ E1.out)).trans E1.out
      have e4 := (hb14.cell (p := ⟨w11.heap.size, 4, none⟩) (World.block_lt_of_cell? _ _ E4.out)).trans E4.out
      have HO14 := Lib.hid (HO12.out.next hb14)
      have HS14 := Lib.hid (HS12.out _ hb14)
      clear hw14 hb14 g1 g4 gc E0 E1 E4 HO12 HS12
      go_upto_region 24 with fail
      go_upto_region 25 with ((with_reducible refine HS14.out.mono ?_); rintro e w13 ⟨σ13, rfl, hf13, hk13, hK13⟩; have HO13 := Lib.hid (HO14.out.space hk13 hf13); have HK13 := Lib.hid hK13; clear hf13 hk13 hK13)
      clear e0 e1 e4 HS14 HO14 HK
      have ha1 : ((a : Int) != a) = false := by simp
      have HKN : Hid (keepR (dz M) M (k + 1) = keepR (dz M) M k) := Lib.hid (keepR_no (by unfold dz; rw [HQ.out]; rfl))
      go_wp2
      exact ⟨⟨k + 1, σ13, vq, by go_num, by omega, Lib.hid (by rw [HKN.out, Nat.add_mul, Nat.one_mul, ← Nat.add_assoc]; exact HO13.out), HK13⟩, by simp only [intOf]; omega⟩
    · rw [show decide (q = 0) = false from decide_eq_false hq0] at HHS HQ
      have hq2 : ((q : Int) == 0) = false := by simpa using hq0
      go_upto_region 17 with fail
      have g0 := cell_regrown n0
      clear n0
      refine wp_region_quiet_below (by kernel_rfl) (by kernel_rfl) ?_
      repeat (first | go_big_quiet_step ((with_reducible exact Calls.regrown_of (HHS.out _ (below_regrown _ _ _)))) | quiet_step ((with_reducible exact Calls.regrown_of (HHS.out _ (below_regrown _ _ _)))))
      refine wpQuiet_nil ?_
      intro w9 hw9
      have hb9 : Below wr.heap.size wr w9 := by
        obtain ⟨p, rfl⟩ := hw9
        exact below_regrown _ _ _
      clear hw9 g0 hq2
      have HO9 := Lib.hid (HO.out.next hb9)
      have HH9 := Lib.hid (HHS.out w9 hb9)
      clear hb9 HHS HO c1
      go_upto_region 20 with ((with_reducible refine HH9.out.mono ?_); rintro e w10 ⟨rfl, hb10⟩; have HO10 := Lib.hid (HO9.out.next hb10); clear hb10)
      clear HO9 HH9
      have HYES : Hid (keepR (dz M) M (k + 1) = keepR (dz M) M k ++ [x]) := Lib.hid (keepR_yes HX.out (by unfold dz; rw [HQ.out]; rfl))
      have hkl := keepR_len (dz M) M k
      obtain ⟨Q, hQ⟩ : ∃ Q, keepR (dz M) M k = Q := ⟨_, rfl⟩
      rw [hQ] at HO10 HYES hkl
      clear hQ
      obtain ⟨Aq, cq, rfl, _⟩ := owns_form HO10.out.own
      obtain ⟨b, off, c', hv, _, hbB, hcell⟩ := HO10.out.f.rd.posAt (by omega)
      injection hv with hv1 hvl hv3
      subst hv1 hv3
      clear hvl
      have HCE : Hid (b < w.heap.size ∧ ∀ i u, x.enc[i]? = some u → w10.cell? ⟨b, off + k * 10 + i, none⟩ = some u) := Lib.hid ⟨hbB, fun i u hu => hcell k i u (rcell HX.out hu)⟩
      clear hcell hbB
      have hwd : Below w10.heap.size w10 { w10 with drawn := w10.drawn + 1 } := ⟨rfl, rfl, rfl, Nat.le_refl _, fun _ _ => rfl⟩
      have HO4 := Lib.hid (HO10.out.next hwd)
      have HCF : Hid (∀ i u, x.enc[i]? = some u → ({ w10 with drawn := w10.drawn + 1 } : World).cell? ⟨b, off + k * 10 + i, none⟩ = some u) := Lib.hid fun i u hu => HCE.out.2 i u hu
      have hbw : b < w.heap.size := HCE.out.1
      clear hwd HO10 HCE
      have hbq : w.heap.size < w7.heap.size := HO4.out.lo
      have hl4 := HO4.out.lt
      obtain ⟨w5d, hw5d⟩ : ∃ W, ({ w10 with drawn := w10.drawn + 1 } : World) = W := ⟨_, rfl⟩
      rw [hw5d] at HO4 HCF hl4
      have hs0 : Below (w7.heap.size + 1) w5d { w10 with drawn := w10.drawn + 1 } := by rw [hw5d]; exact Below.refl _ _
      haveI : Nonempty (InW (fun v => Below (w7.heap.size + 1) w5d v)) := ⟨⟨_, hs0⟩⟩
      refine wp_region_mixZ (fun v => Below (w7.heap.size + 1) w5d v) 10 [(0, false), (1, false), (2, false), (3, false), (4, false), (5, false), (6, false), (7, true), (8, true), (9, false)] (by kernel_rfl) (by kernel_rfl) hs0 ?_
      rw [hw5d]
      clear hs0 hw5d
      have e0 : ∀ p : InW (fun v => Below (w7.heap.size + 1) w5d v), p.w.cell? ⟨w7.heap.size, 1, none⟩ = some (.slice Aq Q.length cq) := fun p => cell_of_row _ _ 1 _ _ (0, 0) ((p.h.block _ (Nat.lt_succ_self _)).trans HO4.out.row)
      have e1 : ∀ p : InW (fun v => Below (w7.heap.size + 1) w5d v), p.w.cell? ⟨w.heap.size, 1, none⟩ = some (.slice (some ⟨b, off, none⟩) M.length c) := fun p => cell_of_row _ _ 1 _ _ (0, 0) ((p.h.block _ (by omega)).trans HO4.out.f.row)
      have e2 : ∀ p : InW (fun v => Below (w7.heap.size + 1) w5d v), p.w.cell? ⟨b, off + k * 10, none⟩ = some (.bool x.permit) := fun p => (p.h.cell (p := ⟨b, off + k * 10 + 0, none⟩) (show b < w7.heap.size + 1 by omega)).trans (HCF.out 0 _ rfl)
      have e3 : ∀ p : InW (fun v => Below (w7.heap.size + 1) w5d v), p.w.cell? ⟨b, off + k * 10 + 1, none⟩ = some (.int .i64 x.proto) := fun p => (p.h.cell (p := ⟨b, off + k * 10 + 1, none⟩) (show b < w7.heap.size + 1 by omega)).trans (HCF.out 1 _ rfl)
      have e4 : ∀ p : InW (fun v => Below (w7.heap.size + 1) w5d v), p.w.cell? ⟨b, off + k * 10 + 2, none⟩ = some (.int .u32 x.sa) := fun p => (p.h.cell (p := ⟨b, off + k * 10 + 2, none⟩) (show b < w7.heap.size + 1 by omega)).trans (HCF.out 2 _ rfl)
      have e5 : ∀ p : InW (fun v => Below (w7.heap.size + 1) w5d v), p.w.cell? ⟨b, off + k * 10 + 3, none⟩ = some (.int .i64 x.sn) := fun p => (p.h.cell (p := ⟨b, off + k * 10 + 3, none⟩) (show b < w7.heap.size + 1 by omega)).trans (HCF.out 3 _ rfl)
      have e6 : ∀ p : InW (fun v => Below (w7.heap.size + 1) w5d v), p.w.cell? ⟨b, off + k * 10 + 4, none⟩ = some (.int .u32 x.da) := fun p => (p.h.cell (p := ⟨b, off + k * 10 + 4, none⟩) (show b < w7.heap.size + 1 by omega)).trans (HCF.out 4 _ rfl)
      have e7 : ∀ p : InW (fun v => Below (w7.heap.size + 1) w5d v), p.w.cell? ⟨b, off + k * 10 + 5, none⟩ = some (.int .i64 x.dn) := fun p => (p.h.cell (p := ⟨b, off + k * 10 + 5, none⟩) (show b < w7.heap.size + 1 by omega)).trans (HCF.out 5 _ rfl)
      have e8 : ∀ p : InW (fun v => Below (w7.heap.size + 1) w5d v), p.w.cell? ⟨b, off + k * 10 + 6, none⟩ = some (.int .u32 x.sl) := fun p => (p.h.cell (p := ⟨b, off + k * 10 + 6, none⟩) (show b < w7.heap.size + 1 by omega)).trans (HCF.out 6 _ rfl)
      have e9 : ∀ p : InW (fun v => Below (w7.heap.size + 1) w5d v), p.w.cell? ⟨b, off + k * 10 + 7, none⟩ = some (.int .u32 x.sh) := fun p => (p.h.cell (p := ⟨b, off + k * 10 + 7, none⟩) (show b < w7.heap.size + 1 by omega)).trans (HCF.out 7 _ rfl)
      have e10 : ∀ p : InW (fun v => Below (w7.heap.size + 1) w5d v), p.w.cell? ⟨b, off + k * 10 + 8, none⟩ = some (.int .u32 x.dl) := fun p => (p.h.cell (p := ⟨b, off + k * 10 + 8, none⟩) (show b < w7.heap.size + 1 by omega)).trans (HCF.out 8 _ rfl)
      have e11 : ∀ p : InW (fun v => Below (w7.heap.size + 1) w5d v), p.w.cell? ⟨b, off + k * 10 + 9, none⟩ = some (.int .u32 x.dh) := fun p => (p.h.cell (p := ⟨b, off + k * 10 + 9, none⟩) (show b < w7.heap.size + 1 by omega)).trans (HCF.out 9 _ rfl)
      refine mixZ_take [0, 1, 2, 3, 4, 5, 6] [_, _, _, _, _, _, _] rfl rfl ?_
      simp only [List.getElem_toArray, List.getElem_cons_zero, List.getElem_cons_succ]
      repeat (go_big_quiet_step (fail))
      refine wpQuiet_nil ?_
      clear e0 e1 e2 e3 e4 e5 e6 e7 e8 e9 e10 e11
      refine mixZ_bar rfl (by rfl) ?_
      simp only [List.getElem_toArray, List.getElem_cons_zero, List.getElem_cons_succ]
      go_simp
      refine ⟨fun v => Below (w7.heap.size + 1) w5d v, (below1 w5d _).mono hl4, fun _ h => h, ?_⟩
      refine mixZ_bar rfl (by rfl) ?_
      simp only [List.getElem_toArray, List.getElem_cons_zero, List.getElem_cons_succ]
      refine oper_pushM (v := .slice Aq Q.length cq) rfl _ _ 22 rfl 43 j0 _ 10 64 Tryz.underlying22 jif jz0 jz1 jz2 rfl (by decide) (by decide) 1 (by decide) (by decide) [.bool x.permit, .int .i64 x.proto, .int .u32 x.sa, .int .i64 x.sn, .int .u32 x.da, .int .i64 x.dn, .int .u32 x.sl, .int .u32 x.sh, .int .u32 x.dl, .int .u32 x.dh] rfl rfl rfl HO4.out.own rfl (renc_oneO x) (by omega) hl4 ?_
      intro v5 w8b ho5 hg5 hm5
      have HG := Lib.hid (HO4.out.grow hg5)
      have HO6 := Lib.hid (HO4.out.push (x := x) ho5 hg5 hm5)
      obtain ⟨A5, c5, rfl, _⟩ := owns_form ho5
      clear ho5 hg5 hm5
      refine ⟨fun v => Below (w7.heap.size + 1) w5d v, HG.out, fun _ h => h, ?_⟩
      go_simp
      refine mixZ_take [9] [_] rfl rfl ?_
      simp only [List.getElem_toArray, List.getElem_cons_zero, List.getElem_cons_succ]
      repeat (go_big_quiet_step (fail))
      refine wpQuiet_nil ?_
      have hrow8 : w8b.heap[w7.heap.size]? = _ := (HG.out.block _ (Nat.lt_succ_self _)).trans HO4.out.row
      have c7 : w8b.cell? ⟨w7.heap.size, 1, none⟩ = some (.slice Aq Q.length cq) := cell_of_row _ _ 1 _ _ (0, 0) hrow8
      have f7 := frozen_of_row _ _ 1 _ _ hrow8
      clear hrow8
      refine mixZ_end rfl (by rfl) ?_
      simp only [List.getElem_toArray, List.getElem_cons_zero, List.getElem_cons_succ]
      go_simp
      clear c7 f7 HG HO4
      generalize w8b.setCell ⟨w7.heap.size, 1, none⟩ (.slice A5 (Q.length + 1) c5) = w9b at *
      go_wp2
      exact ⟨⟨k + 1, τ, _, by go_num, by omega, Lib.hid (by rw [HYES.out, Nat.add_mul, Nat.one_mul, ← Nat.add_assoc]; exact ⟨HO6.out.f.more (by omega), HO6.out.row, HO6.out.rf, HO6.out.lo, HO6.out.own, HO6.out.of, HO6.out.ns, HO6.out.zs⟩), HK⟩, by simp only [intOf]; omega⟩
end
end Go.Proofs.YtbahehmfhjkgeaaGreat

/-
  The walk of the law FilterDecides (written by wip/gen/genlawfd.py).
-/
namespace Go.Proofs.YtbahehmfhjkgeaaGreat
open Go Go.RowKit Go.Sort

def HeaderV.enc (h : HeaderV) : List Value := [.int .u32 h.src, .int .u32 h.dst, .int .u8 h.proto, .int .u16 h.sp, .int .u16 h.dp]
theorem header_len (h : HeaderV) : h.enc.length = 5 := rfl
def hcells (L : List HeaderV) : List Value := L.flatMap HeaderV.enc
theorem hcell {L : List HeaderV} {k i : Nat} {h : HeaderV} {v : Value} (hr : L[k]? = some h) (hv : h.enc[i]? = some v) : (hcells L)[k * 5 + i]? = some v := flat_get HeaderV.enc 5 header_len L k i h v hr hv
/-- A slice cut at its end. -/
theorem Rd.take {α : Type} {enc : α → List Value} {k : Nat} (hk : ∀ x, (enc x).length = k) {w : World} {B : Nat} {A : Option Addr} {c n m : Nat} {L : List α} (h : Rd w B k (.slice A n c) n (L.flatMap enc)) (hn : L.length = n) (hm : m ≤ n) :
    Rd w B k (.slice A m c) m ((L.take m).flatMap enc) := by
  obtain ⟨A', c', hv, hc, hl, hp⟩ := h
  injection hv with h1 h2 h3
  subst h1 h3
  have hlen : (L.take m).length = m := by simp; omega
  refine ⟨A, c, rfl, by omega, by rw [flat_len enc k hk, hlen], fun hm0 => ?_⟩
  obtain ⟨b, off, hA, hB, hcell⟩ := hp (by omega)
  refine ⟨b, off, hA, hB, fun j u hu => hcell j u ?_⟩
  have e : L.flatMap enc = (L.take m).flatMap enc ++ (L.drop m).flatMap enc := by rw [← List.flatMap_append, List.take_append_drop]
  rw [e, List.getElem?_append_left (List.getElem?_eq_some_iff.1 hu).1]
  exact hu

/-- What the law's own memory holds behind its first statements: the filter as it was handed in (cut), its copy, the rule. -/
def FDst (nm : ByteArray) (M : List RuleV) (A2 : Option Addr) (c0 : Nat) (A3 : Option Addr) (c3 : Nat) (r : RuleV) (w : World) (g : Nat) (W : World) : Prop :=
  W.heap[g]? = some (.cells #[.string nm, .slice A3 M.length c3] 24 (0, 0)) ∧ Rd W W.heap.size 10 (.slice A3 M.length c3) M.length (rcells M) ∧ W.heap[w.heap.size]? = some (.cells #[.string nm, .slice A2 M.length c0] 24 (0, 0)) ∧ W.heap[w.heap.size + 1]? = some (.cells #[.bool r.permit, .int .i64 r.proto, .int .u32 r.sa, .int .i64 r.sn, .int .u32 r.da, .int .i64 r.dn, .int .u32 r.sl, .int .u32 r.sh, .int .u32 r.dl, .int .u32 r.dh] 43 (0, 0)) ∧ Rd W w.heap.size 10 (.slice A2 M.length c0) M.length (rcells M) ∧ Below w.heap.size w W
section
variable {nm : ByteArray} {M : List RuleV} {A2 : Option Addr} {c0 : Nat} {A3 : Option Addr} {c3 : Nat} {r : RuleV} {w : World} {g : Nat} {W W' : World}
theorem FDst.next (h : FDst nm M A2 c0 A3 c3 r w g W) (hb : Below W.heap.size W W') : FDst nm M A2 c0 A3 c3 r w g W' := by
  obtain ⟨h1, h2, h3, h4, h5, h6⟩ := h
  exact ⟨blk_below hb h1, (h2.below hb).mono hb.size, blk_below hb h3, blk_below hb h4, h5.below (hb.mono h6.size), h6.trans (hb.mono h6.size)⟩
theorem FDst.own (h : FDst nm M A2 c0 A3 c3 r w g W) : W.cell? ⟨g, 0, none⟩ = some (.string nm) ∧ W.cell? ⟨g, 1, none⟩ = some (.slice A3 M.length c3) := ⟨(two_cells h.1).1, (two_cells h.1).2.1⟩
theorem FDst.its (h : FDst nm M A2 c0 A3 c3 r w g W) : W.cell? ⟨w.heap.size, 0, none⟩ = some (.string nm) ∧ W.cell? ⟨w.heap.size, 1, none⟩ = some (.slice A2 M.length c0) := ⟨(two_cells h.2.2.1).1, (two_cells h.2.2.1).2.1⟩
theorem FDst.rule (h : FDst nm M A2 c0 A3 c3 r w g W) : W.cell? ⟨w.heap.size + 1, 0, none⟩ = some (.bool r.permit) ∧ W.cell? ⟨w.heap.size + 1, 1, none⟩ = some (.int .i64 r.proto) ∧ W.cell? ⟨w.heap.size + 1, 2, none⟩ = some (.int .u32 r.sa) ∧ W.cell? ⟨w.heap.size + 1, 3, none⟩ = some (.int .i64 r.sn) ∧ W.cell? ⟨w.heap.size + 1, 4, none⟩ = some (.int .u32 r.da) ∧ W.cell? ⟨w.heap.size + 1, 5, none⟩ = some (.int .i64 r.dn) ∧ W.cell? ⟨w.heap.size + 1, 6, none⟩ = some (.int .u32 r.sl) ∧ W.cell? ⟨w.heap.size + 1, 7, none⟩ = some (.int .u32 r.sh) ∧ W.cell? ⟨w.heap.size + 1, 8, none⟩ = some (.int .u32 r.dl) ∧ W.cell? ⟨w.heap.size + 1, 9, none⟩ = some (.int .u32 r.dh) :=
  ⟨cell_of_row W (w.heap.size + 1) 0 _ _ (0, 0) h.2.2.2.1, cell_of_row W (w.heap.size + 1) 1 _ _ (0, 0) h.2.2.2.1, cell_of_row W (w.heap.size + 1) 2 _ _ (0, 0) h.2.2.2.1, cell_of_row W (w.heap.size + 1) 3 _ _ (0, 0) h.2.2.2.1, cell_of_row W (w.heap.size + 1) 4 _ _ (0, 0) h.2.2.2.1, cell_of_row W (w.heap.size + 1) 5 _ _ (0, 0) h.2.2.2.1, cell_of_row W (w.heap.size + 1) 6 _ _ (0, 0) h.2.2.2.1, cell_of_row W (w.heap.size + 1) 7 _ _ (0, 0) h.2.2.2.1, cell_of_row W (w.heap.size + 1) 8 _ _ (0, 0) h.2.2.2.1, cell_of_row W (w.heap.size + 1) 9 _ _ (0, 0) h.2.2.2.1⟩
theorem FDst.rd (h : FDst nm M A2 c0 A3 c3 r w g W) : Rd W W.heap.size 10 (.slice A3 M.length c3) M.length (rcells M) := h.2.1
theorem FDst.rdf (h : FDst nm M A2 c0 A3 c3 r w g W) : Rd W W.heap.size 10 (.slice A2 M.length c0) M.length (rcells M) := h.2.2.2.2.1.mono h.2.2.2.2.2.size
theorem FDst.bel (h : FDst nm M A2 c0 A3 c3 r w g W) : Below w.heap.size w W := h.2.2.2.2.2
theorem FDst.lt (h : FDst nm M A2 c0 A3 c3 r w g W) : g < W.heap.size ∧ w.heap.size < W.heap.size ∧ w.heap.size + 1 < W.heap.size := ⟨lt_of_block h.1, lt_of_block h.2.2.1, lt_of_block h.2.2.2.1⟩
end

end Go.Proofs.YtbahehmfhjkgeaaGreat

/-
  The cells of rules and of headers (written by wip/gen/genelem.py).
-/
namespace Go.Proofs.YtbahehmfhjkgeaaGreat
open Go Go.RowKit Go.ChangeShapes Go.WideShapes Go.Deep

set_option maxHeartbeats 1000000 in
theorem elem_rule {H : Type} {enc : TypeId × Value → H} {w : World} {base : Nat} {spare : Nat → Bool} {held : Bool} (n : Nat) (cs : List Value) (x : DataW H × List MemPlace) (h : DataW.trod enc Tryz.prog w base spare held n 43 cs = some x) : ∃ r : RuleV, cs = r.enc := by
  obtain ⟨l0, m0, s0⟩ := sub_at Tryz.underlying43 h
  rw [show Tryz.prog.cellsOf 43 = 10 from by kernel_rfl] at l0
  obtain ⟨c0, c1, c2, c3, c4, c5, c6, c7, c8, c9, rfl⟩ : ∃ c0 c1 c2 c3 c4 c5 c6 c7 c8 c9, cs = [c0, c1, c2, c3, c4, c5, c6, c7, c8, c9] := by
    match cs, l0 with
    | [c0, c1, c2, c3, c4, c5, c6, c7, c8, c9], _ => exact ⟨c0, c1, c2, c3, c4, c5, c6, c7, c8, c9, rfl⟩
  obtain ⟨_, g1⟩ := s0 0 _ 0 4 1 rfl rfl rfl (by kernel_rfl)
  replace g1 : DataW.trod enc Tryz.prog w base spare held m0 4 [c0] = some _ := g1
  obtain ⟨v0, e0, _⟩ := DataW.trod_bool Tryz.underlying4 g1
  obtain rfl := (List.cons.inj e0).1
  obtain ⟨_, g2⟩ := s0 1 _ 1 3 1 rfl rfl rfl (by kernel_rfl)
  replace g2 : DataW.trod enc Tryz.prog w base spare held m0 3 [c1] = some _ := g2
  obtain ⟨v1, e1, _, w1⟩ := DataW.trod_int Tryz.underlying3 g2
  have b1 := bounds_i64 w1
  obtain rfl := (List.cons.inj e1).1
  obtain ⟨_, g3⟩ := s0 2 _ 2 39 2 rfl rfl rfl (by kernel_rfl)
  replace g3 : DataW.trod enc Tryz.prog w base spare held m0 39 [c2, c3] = some _ := g3
  obtain ⟨l4, m4, s4⟩ := sub_at Tryz.underlying39 g3
  obtain ⟨_, g5⟩ := s4 0 _ 0 37 1 rfl rfl rfl (by kernel_rfl)
  replace g5 : DataW.trod enc Tryz.prog w base spare held m4 37 [c2] = some _ := g5
  obtain ⟨v2, e2, _, w2⟩ := DataW.trod_int Tryz.underlying37 g5
  have b2 := bounds_u32 w2
  obtain rfl := (List.cons.inj e2).1
  obtain ⟨_, g6⟩ := s4 1 _ 1 3 1 rfl rfl rfl (by kernel_rfl)
  replace g6 : DataW.trod enc Tryz.prog w base spare held m4 3 [c3] = some _ := g6
  obtain ⟨v3, e3, _, w3⟩ := DataW.trod_int Tryz.underlying3 g6
  have b3 := bounds_i64 w3
  obtain rfl := (List.cons.inj e3).1
  obtain ⟨_, g7⟩ := s0 3 _ 4 39 2 rfl rfl rfl (by kernel_rfl)
  replace g7 : DataW.trod enc Tryz.prog w base spare held m0 39 [c4, c5] = some _ := g7
  obtain ⟨l8, m8, s8⟩ := sub_at Tryz.underlying39 g7
  obtain ⟨_, g9⟩ := s8 0 _ 0 37 1 rfl rfl rfl (by kernel_rfl)
  replace g9 : DataW.trod enc Tryz.prog w base spare held m8 37 [c4] = some _ := g9
  obtain ⟨v4, e4, _, w4⟩ := DataW.trod_int Tryz.underlying37 g9
  have b4 := bounds_u32 w4
  obtain rfl := (List.cons.inj e4).1
  obtain ⟨_, g10⟩ := s8 1 _ 1 3 1 rfl rfl rfl (by kernel_rfl)
  replace g10 : DataW.trod enc Tryz.prog w base spare held m8 3 [c5] = some _ := g10
  obtain ⟨v5, e5, _, w5⟩ := DataW.trod_int Tryz.underlying3 g10
  have b5 := bounds_i64 w5
  obtain rfl := (List.cons.inj e5).1
  obtain ⟨_, g11⟩ := s0 4 _ 6 41 2 rfl rfl rfl (by kernel_rfl)
  replace g11 : DataW.trod enc Tryz.prog w base spare held m0 41 [c6, c7] = some _ := g11
  obtain ⟨l12, m12, s12⟩ := sub_at Tryz.underlying41 g11
  obtain ⟨_, g13⟩ := s12 0 _ 0 36 1 rfl rfl rfl (by kernel_rfl)
  replace g13 : DataW.trod enc Tryz.prog w base spare held m12 36 [c6] = some _ := g13
  obtain ⟨v6, e6, _, w6⟩ := DataW.trod_int Tryz.underlying36 g13
  have b6 := bounds_u32 w6
  obtain rfl := (List.cons.inj e6).1
  obtain ⟨_, g14⟩ := s12 1 _ 1 36 1 rfl rfl rfl (by kernel_rfl)
  replace g14 : DataW.trod enc Tryz.prog w base spare held m12 36 [c7] = some _ := g14
  obtain ⟨v7, e7, _, w7⟩ := DataW.trod_int Tryz.underlying36 g14
  have b7 := bounds_u32 w7
  obtain rfl := (List.cons.inj e7).1
  obtain ⟨_, g15⟩ := s0 5 _ 8 41 2 rfl rfl rfl (by kernel_rfl)
  replace g15 : DataW.trod enc Tryz.prog w base spare held m0 41 [c8, c9] = some _ := g15
  obtain ⟨l16, m16, s16⟩ := sub_at Tryz.underlying41 g15
  obtain ⟨_, g17⟩ := s16 0 _ 0 36 1 rfl rfl rfl (by kernel_rfl)
  replace g17 : DataW.trod enc Tryz.prog w base spare held m16 36 [c8] = some _ := g17
  obtain ⟨v8, e8, _, w8⟩ := DataW.trod_int Tryz.underlying36 g17
  have b8 := bounds_u32 w8
  obtain rfl := (List.cons.inj e8).1
  obtain ⟨_, g18⟩ := s16 1 _ 1 36 1 rfl rfl rfl (by kernel_rfl)
  replace g18 : DataW.trod enc Tryz.prog w base spare held m16 36 [c9] = some _ := g18
  obtain ⟨v9, e9, _, w9⟩ := DataW.trod_int Tryz.underlying36 g18
  have b9 := bounds_u32 w9
  obtain rfl := (List.cons.inj e9).1
  exact ⟨⟨v0, v1, v2, v3, v4, v5, v6, v7, v8, v9, by omega, ⟨by omega, by omega⟩, ⟨by omega, by omega⟩, ⟨by omega, by omega⟩, ⟨by omega, by omega⟩, ⟨by omega, by omega⟩, ⟨by omega, by omega⟩⟩, rfl⟩

theorem elem_filter {H : Type} {enc : TypeId × Value → H} {w : World} {base : Nat} {spare : Nat → Bool} {held : Bool} (n : Nat) (cs : List Value) (x : DataW H × List MemPlace) (h : DataW.trod enc Tryz.prog w base spare held n 24 cs = some x) :
    ∃ (nm : ByteArray) (v : Value) (L : List RuleV), cs = [.string nm, v] ∧ Rd w w.heap.size 10 v L.length (rcells L) ∧ L.length ≤ maxLen := by
  obtain ⟨l0, m0, s0⟩ := sub_at Tryz.underlying24 h
  rw [show Tryz.prog.cellsOf 24 = 2 from by kernel_rfl] at l0
  obtain ⟨c0, c1, rfl⟩ : ∃ c0 c1, cs = [c0, c1] := by
    match cs, l0 with
    | [c0, c1], _ => exact ⟨c0, c1, rfl⟩
  obtain ⟨_, g1⟩ := s0 0 _ 0 9 1 rfl rfl rfl (by kernel_rfl)
  replace g1 : DataW.trod enc Tryz.prog w base spare held m0 9 [c0] = some _ := g1
  obtain ⟨nm, e0, _⟩ := DataW.trod_string Tryz.underlying9 g1
  obtain rfl := (List.cons.inj e0).1
  obtain ⟨_, g2⟩ := s0 1 _ 1 22 1 rfl rfl rfl (by kernel_rfl)
  replace g2 : DataW.trod enc Tryz.prog w base spare held m0 22 [c1] = some _ := g2
  obtain ⟨v, L, hv, hr, hl⟩ := open_rd rule_len (by decide) Tryz.underlying22 (by kernel_rfl) elem_rule g2
  obtain rfl := (List.cons.inj hv).1
  exact ⟨nm, c1, L, rfl, hr, hl⟩

end Go.Proofs.YtbahehmfhjkgeaaGreat
