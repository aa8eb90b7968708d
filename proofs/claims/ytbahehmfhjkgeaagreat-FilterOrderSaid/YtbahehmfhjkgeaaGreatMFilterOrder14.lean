/-
  Joined texts: LawFtOr, LawFD, Elem1.
-/
import Derived.Test.YtbahehmfhjkgeaaGreatMFilterOrder13
import Derived.Deep.DeepCutAuto
import Derived.Deep.RegionLawGrows
import Derived.Deep.RegionHeldLaw
import Derived.Deep.RegionHeld3
import Derived.Test.YtbahehmfhjkgeaaGreatMFilterOrder5
import Derived.Deep.Fields
/-
  The walk of the law FilterOrder (written by wip/gen/genlawor.py).
-/
namespace Go.Proofs.YtbahehmfhjkgeaaGreat
open Go Go.RowKit Go.ChangeMaps Go.MapKept Go.Maps Go.Lib Go.Sort

theorem rd_takeO {α : Type} {enc : α → List Value} {k : Nat} (hk : ∀ x, (enc x).length = k) {w : World} {B : Nat} {A : Option Addr} {c n m : Nat} {L : List α} (h : Rd w B k (.slice A n c) n (L.flatMap enc)) (hn : L.length = n) (hm : m ≤ n) :
    Rd w B k (.slice A m c) m ((L.take m).flatMap enc) := by
  obtain ⟨A', c', hv, hc, hl, hp⟩ := h
  injection hv with h1 h2 h3
  subst h1 h3
  have hlen : (L.take m).length = m := by simp; omega
  refine ⟨A, c, rfl, by omega, by rw [flat_len enc k hk, hlen], fun hm0 => ?_⟩
  obtain ⟨b, off, hA, hB, hcell⟩ := hp (by omega)
  refine ⟨b, off, hA, hB, fun j u hu => hcell j u ?_⟩
  have e : L.flatMap enc = (L.take m).flatMap enc ++ (L.drop m).flatMap enc := by rw [← List.flatMap_append, List.take_append_drop]
  rw [e, List.getElem?_append_left (List.getElem?_eq_some_iff.1 hu).1]
  exact hu
/-- The places of the nodes that are not none. -/
def nzB (ns : List Nat) (i : Nat) : Bool := (ns[i]?.map (· != 0)).getD false
theorem nzB_eq {ns : List Nat} {i q : Nat} (h : ns[i]? = some q) : nzB ns i = (q != 0) := by unfold nzB; rw [h]; rfl
theorem nzB_dec {σ : Sg} {ns : List Nat} {M : List RuleV} (o : SgOk 4194304 σ) (hl : ns.length = M.length) (h : ∀ i n, ns[i]? = some n → Den σ n (decF M i)) : ∀ k, k < M.length → nzB ns k = false → decF M k = fun _ => false := fun k hk hz => by
  obtain ⟨q, hq⟩ : ∃ q, ns[k]? = some q := ⟨_, List.getElem?_eq_getElem (by omega)⟩
  rw [nzB_eq hq] at hz
  have hz2 : q = 0 := by simpa using hz
  subst hz2
  have hd := h k 0 hq
  have z := Den.zero o
  funext s
  exact (hd.2 s).symm.trans (z.2 s)
theorem take_flip {M : List RuleV} {k : Nat} {x : RuleV} (h : M[k]? = some x) : (M.map flipR).take (k + 1) = (M.map flipR).take k ++ [flipR x] := take_snocR (by rw [List.getElem?_map, h]; rfl)
/-- What is read where a rule is kept. -/
def RdS (gq : Nat) (vq : Value) (gf : Nat) (vf : Value) (b o : Nat) (x : RuleV) (v : World) : Prop := v.cell? ⟨gq, 1, none⟩ = some vq ∧ v.cell? ⟨gf, 1, none⟩ = some vf ∧ ∀ i u, x.enc[i]? = some u → v.cell? ⟨b, o + i, none⟩ = some u
section
theorem FoB.rdr {w W W' : World} {B : Nat} {nm : ByteArray} {Ad : Option Addr} {c : Nat} {M : List RuleV} {S km : Nat} {A : Blks} {k : Nat} {σ : Sg} (h : FoB w B nm Ad c M S km A k σ W) (hb : Below W.heap.size W W') {L : List RuleV} {g cc n : Nat} (hL : n = L.length) (hg : W.heap.size ≤ g) (hc : n ≤ cc) (hr : W'.rangeAt g 0 (rcells L)) : RdF A km W' 10 (.slice (some ⟨g, 0, none⟩) n cc) n (rcells L) := by
  have hkm := h.sp.sp.fk.1
  refine ⟨_, cc, rfl, hc, by rw [rcells_lenO, hL], fun h0 => ?_⟩
  obtain ⟨v, hv⟩ : ∃ v, (rcells L)[0]? = some v := ⟨_, List.getElem?_eq_getElem (by rw [rcells_lenO]; omega)⟩
  have hlt := World.block_lt_of_cell? _ _ (hr 0 v hv)
  exact ⟨g, 0, rfl, h.sp.sp.ar.foreign_new hb (by omega) hlt, by omega, fun j u hu => hr j u hu⟩
theorem ite_of {c : Prop} [Decidable c] {A B : Prop} (hc : c) (h : A) : if c then A else B := by rw [if_pos hc]; exact h
theorem wrap_small {k : Int} (h0 : 0 ≤ k) (h1 : k ≤ 12) : IntKind.i64.wrap k = k := by
  have e : k % 2 ^ 64 = k := Int.emod_eq_of_lt h0 (by omega)
  simp only [IntKind.wrap, IntKind.bits, IntKind.signed, e]
  rw [if_neg]
  simp
  omega
set_option maxRecDepth 100000
set_option maxHeartbeats 16000000
theorem lawFtOr_any (nm : ByteArray) (L0 : List RuleV) (vL : Value) (a : Int) (w : World) (hL : Rd w w.heap.size 10 vL L0.length (rcells L0)) :
    Calls Tryz.prog 3 #[.agg #[.string nm, vL], .int .i64 a] w fun e w' => e = .returned (.bool true) ∧ Below w.heap.size w w' := by
  obtain ⟨j0, jif, jz0, jz1, jz2⟩ := info_parts Tryz.infoRuleF
  obtain ⟨A, c, rfl, hc⟩ := hL.form
  have hb := below1 w (.cells #[.string nm, .slice A L0.length c] 24)
  have HB0 := Lib.hid hb
  have HK0 := Lib.hid (blk1 w (.cells #[.string nm, .slice A L0.length c] 24))
  have HL : Hid (Rd w w.heap.size 10 (.slice A L0.length c) L0.length (L0.flatMap RuleV.enc)) := Lib.hid hL
  clear hb hL
  go_enter Tryz.func3, Tryz.ntmps3
  go_upto_region 1 with fail
  generalize w.alloc (.cells #[.string nm, .slice A L0.length c] 24) = w0 at *
  go_upto_region 3 with ((with_reducible refine (lawAwake10_any _).mono ?_); rintro e w1 ⟨rfl, hb1⟩; have HB1 := Lib.hid (HB0.out.trans (hb1.mono HB0.out.size)); have HK1 := Lib.hid (blk_below hb1 HK0.out); clear hb1)
  clear HB0 HK0
  have c1 : w1.cell? ⟨w.heap.size, 1, none⟩ = some (.slice A L0.length c) := cell_of_row _ _ 1 _ _ (0, 0) HK1.out
  go_upto_if 29 with fail
  go_cut [] (fun wx => ∃ M : List RuleV, M.length ≤ 12 ∧ Hid (wx.heap[w.heap.size]? = some (.cells #[.string nm, .slice A M.length c] 24 (0, 0))) ∧ Hid (Rd wx w.heap.size 10 (.slice A M.length c) M.length (rcells M)) ∧ Hid (Below w.heap.size w wx))
  case first =>
    by_cases hbig : 12 < L0.length
    · have hI : (12 : Int) < (L0.length : Int) := by omega
      have hcc : (12 : Int) ≤ (c : Int) := by omega
      have f1 := frozen_of_row _ _ 1 _ _ HK1.out
      go_wp2
      go_meet
      have e3 : (L0.take 12).length = 12 := by simp; omega
      have hk := set_1 (u := .slice A 12 c) HK1.out
      exact ⟨L0.take 12, by omega, by rw [e3]; exact hk, by rw [e3]; exact (rd_takeO (m := 12) rule_len HL.out rfl (by omega)).below (HB1.out.setCell (p := ⟨w.heap.size, 1, none⟩) (Nat.le_refl _) _), HB1.out.setCell (p := ⟨w.heap.size, 1, none⟩) (Nat.le_refl _) _⟩
    · have hI : ¬ (12 : Int) < (L0.length : Int) := by omega
      go_wp2
      go_meet
      exact ⟨L0, by omega, HK1, HL.out.below HB1.out, HB1⟩
  case rest =>
    obtain ⟨M, hM, HKF, HRF, HBF⟩ := hcut
    clear HK1 HB1 HL c1
    have HNEW := Lib.hid (show Calls Tryz.prog 8 #[.int .i64 4194304] wc (fun e w' => ∃ (S km : Nat) (A : Blks), e = .returned (.tuple #[.pointer (some ⟨S, 0, none⟩), .int .i64 0]) ∧ SpAt w' wc.heap.size S km A 4194304 N0 [] [0, 1] [] ∧ Below wc.heap.size wc w' ∧ wc.heap.size ≤ S ∧ wc.heap.size ≤ km) from relNew_any wc 4194304 (Nat.le_refl _))
    go_upto_region 6 with ((with_reducible refine HNEW.out.mono ?_); rintro e w3 ⟨S, km, AA, rfl, hs3, hb3, hS3, hkm3⟩; have HS3 := Lib.hid hs3.newOk; have HLO := Lib.hid hkm3; have HBC := Lib.hid hb3; clear hs3 hS3 hkm3 hb3)
    clear HNEW
    have HLT := Lib.hid (lt_of_block HKF.out)
    have HK3 := Lib.hid (blk_below HBC.out HKF.out)
    have HR3 := Lib.hid (HRF.out.below (HBC.out.mono HBF.out.size))
    have HB3 : Hid (Below w.heap.size w w3) := Lib.hid (HBF.out.trans (HBC.out.mono HBF.out.size))
    have c0 : w3.cell? ⟨w.heap.size, 0, none⟩ = some (.string nm) := cell_of_row _ _ 0 _ _ (0, 0) HK3.out
    have c1 : w3.cell? ⟨w.heap.size, 1, none⟩ = some (.slice A M.length c) := cell_of_row _ _ 1 _ _ (0, 0) HK3.out
    have hck := refFiltCheck_any nm M (.slice A M.length c) w3 (HR3.out.mono HB3.out.size)
    obtain ⟨E, hE⟩ : ∃ E, filtE M = E := ⟨_, rfl⟩
    rw [hE] at hck
    have HCK := Lib.hid hck
    have HE := Lib.hid hE
    clear hck hE
    by_cases he : E = 0
    case neg =>
      have he2 : (E != 0) = true := by simpa using he
      go_wp2_with ((with_reducible refine HCK.out.mono ?_); rintro e w4 ⟨rfl, hb4⟩; have HB4 := Lib.hid (HB3.out.trans (hb4.mono HB3.out.size)); clear hb4)
      go_ret
      exact ⟨rfl, HB4.out⟩
    subst he
    go_upto_region 8 with ((with_reducible refine HCK.out.mono ?_); rintro e w4 ⟨rfl, hb4⟩; have HF4 : Hid (FoB w wc.heap.size nm A c M S km AA 0 newSg w4) := Lib.hid ⟨HS3.out.below hb4, Nat.le_refl _, Nat.le_refl _, blk_below hb4 HK3.out, HR3.out.below (hb4.mono HB3.out.size), HB3.out.trans (hb4.mono HB3.out.size), HLT.out, HLO.out⟩; clear hb4)
    clear c0 c1 HCK HS3 HK3 HR3 HBC HLO HLT HB3 HKF HRF HBF
    have c0 : w4.cell? ⟨w.heap.size, 0, none⟩ = some (.string nm) := cell_of_row _ _ 0 _ _ (0, 0) HF4.out.row
    have c1 : w4.cell? ⟨w.heap.size, 1, none⟩ = some (.slice A M.length c) := cell_of_row _ _ 1 _ _ (0, 0) HF4.out.row
    have HSE := Lib.hid (HF4.out.first HE.out hM)
    go_upto_region 9 with ((with_reducible refine HSE.out.mono ?_); rintro e w5 ⟨r5, σ5, rfl, hf5, hk5⟩; have HF5 := Lib.hid hf5; have HK5 := Lib.hid hk5; clear hf5 hk5)
    clear c0 c1 HSE HF4
    have c0 : w5.cell? ⟨w.heap.size, 0, none⟩ = some (.string nm) := cell_of_row _ _ 0 _ _ (0, 0) HF5.out.row
    have c1 : w5.cell? ⟨w.heap.size, 1, none⟩ = some (.slice A M.length c) := cell_of_row _ _ 1 _ _ (0, 0) HF5.out.row
    have HRU := Lib.hid (HF5.out.rules HK5.out HE.out hM (by omega))
    go_upto_region 10 with ((with_reducible refine HRU.out.mono ?_); rintro e w6 ⟨vN, ns, σ6, rfl, hf6, hk6, hln, hdn, hon⟩; obtain ⟨AN, cN, hvN, _⟩ := owns_form hon; subst hvN; have HF6 := Lib.hid hf6; have HK6 := Lib.hid hk6; have HLN := Lib.hid hln; have HDN := Lib.hid (nzB_dec hf6.sp.ok hln hdn); have HON := Lib.hid (Rd.of_own hon); clear hf6 hk6 hln hdn hon)
    clear c0 c1 HRU HF5 HK5
    have hn12 : ns.length ≤ 12 := by have := HLN.out; omega
    go_upto_region 13 with fail
    have HI6 : Hid (OrSt w6 ((w6.alloc (.cells #[.string ⟨#[]⟩, .slice none 0 0] 24)).alloc (.cells #[.string ⟨#[]⟩, .slice none 0 0] 24)) (.slice none 0 0) (.slice none 0 0) [] []) := Lib.hid ⟨below2 w6 _ _, (blk2 w6 _ _).1, (blk2 w6 _ _).2, World.ownsRow_nil _ _ _ _, World.ownsRow_nil _ _ _ _, fun g hg => by cases hg⟩
    generalize (w6.alloc (.cells #[.string ⟨#[]⟩, .slice none 0 0] 24)).alloc (.cells #[.string ⟨#[]⟩, .slice none 0 0] 24) = w7 at *
    go_wp2
    go_loopw [12] (fun i wr => ∃ (k : Nat) (vq vt : Value), i = .int .i64 k ∧ k ≤ ns.length ∧ Hid (OrSt w6 wr vq vt (keepR (nzB ns) M k) ((M.map flipR).take k))) (fun i _ => ns.length - (intOf i).toNat)
    case atStart => exact ⟨0, _, _, rfl, by omega, HI6⟩
    case round =>
      obtain ⟨k, vq, vt, rfl, hk, HO⟩ := hrel
      by_cases hlt : k < ns.length
      case neg =>
        obtain rfl : k = ns.length := by omega
        have hI : ¬ (ns.length : Int) < (ns.length : Int) := by omega
        have HOR : Hid (OrSt w6 wr vq vt (keepR (nzB ns) M M.length) (M.map flipR)) := Lib.hid (by
          have h := HO.out
          rw [HLN.out, List.take_of_length_le (by rw [List.length_map]; exact Nat.le_refl _)] at h
          exact h)
        clear HO
        obtain ⟨TT, hTT⟩ : ∃ TT, M.map flipR = TT := ⟨_, rfl⟩
        have hTl : TT.length ≤ 12 := by rw [← hTT, List.length_map]; exact hM
        rw [hTT] at HOR
        have HTT := Lib.hid hTT
        clear hTT
        obtain ⟨At, ct, rfl, _⟩ := owns_form HOR.out.tr
        have q1 : wr.cell? ⟨w6.heap.size + 1, 1, none⟩ = some (.slice At TT.length ct) := cell_of_row _ _ 1 _ _ (0, 0) HOR.out.bt
        have hbs := HOR.out.lt
        go_upto_region 22 with (at_builtin; refine wpList_push2 (v := .slice At TT.length ct) rfl _ _ 22 rfl 43 j0 _ 10 64 Tryz.underlying22 jif jz0 jz1 jz2 rfl (by decide) (by decide) openR.enc rfl rfl rfl HOR.out.tr rfl (renc_oneO _) (by omega) hbs ?_; intro v3 w10 ho3 hg3 hm3; obtain ⟨A3, c3, rfl, _⟩ := owns_form ho3; have HG := Lib.hid (HOR.out.growT hg3); have HO8 := Lib.hid (HOR.out.pushT (x := openR) ho3 hg3 hm3); have g7 : w10.cell? ⟨w6.heap.size + 1, 1, none⟩ = some (.slice At TT.length ct) := cell_of_row _ _ 1 _ _ (0, 0) HG.out.2; have f7 := frozen_of_row _ _ 1 _ _ HG.out.2; clear ho3 hg3 hm3)
        clear q1 hbs g7 f7 HG HOR
        generalize w10.setCell ⟨w6.heap.size + 1, 1, none⟩ (.slice A3 (TT.length + 1) c3) = w9 at *
        have HF9 := Lib.hid (HF6.out.next HO8.out.bel)
        have HSL := Lib.hid (HF9.out.less HK6.out HE.out hM (by omega) HDN.out ⟨#[]⟩ vq (HF6.out.rdo HO8.out.bel HO8.out.qr (by omega)))
        have HFT := Lib.hid (HF6.out.sp.sp.ar.foreign_new HO8.out.bel (Nat.le_succ _) (lt_of_block HO8.out.bt))
        have HNE : Hid (w6.heap.size + 1 ≠ km) := Lib.hid (by have := HF6.out.sp.sp.fk.1; omega)
        have HRT := Lib.hid (HF6.out.rdo HO8.out.bel (L := TT ++ [openR]) HO8.out.tr (by omega))
        obtain ⟨Aq, cq, rfl, _⟩ := owns_form HO8.out.qr
        have q0 : w9.cell? ⟨w6.heap.size, 0, none⟩ = some (.string ⟨#[]⟩) := cell_of_row _ _ 0 _ _ (0, 0) HO8.out.bq
        have q1 := cell_of_row _ _ 1 _ _ (0, 0) HO8.out.bq
        go_upto_region 23 with ((with_reducible refine HSL.out.mono ?_); rintro e w11 ⟨σ11, rfl, hf11, hk11, hK11⟩; have HF11 := Lib.hid hf11; have HK11 := Lib.hid hK11; have HBT := Lib.hid ((hk11.same _ HFT.out HNE.out).1.trans HO8.out.bt); have HRT2 := Lib.hid (HRT.out.kept hk11); clear hf11 hk11 hK11)
        clear q0 q1 HSL HFT HNE HRT HO8 HF9
        have q0 : w11.cell? ⟨w6.heap.size + 1, 0, none⟩ = some (.string ⟨#[]⟩) := cell_of_row _ _ 0 _ _ (0, 0) HBT.out
        have q1 := cell_of_row _ _ 1 _ _ (0, 0) HBT.out
        have hsT := HF11.out.turned HK11.out HE.out hM (by omega) ⟨#[]⟩ (.slice A3 (TT.length + 1) c3) (by rw [HTT.out]; exact HRT2.out)
        have HST := Lib.hid hsT
        clear hsT
        go_upto_region 24 with ((with_reducible refine HST.out.mono ?_); rintro e w12 ⟨r12, σ12, rfl, hf12, hk12, hd12⟩; have HF12 := Lib.hid hf12; have HK12 := Lib.hid hk12; have HNO := Lib.hid (hf12.inv hk12 (by omega) hd12); clear hf12 hk12 hd12)
        clear q0 q1 HST HBT HRT2 HF11 HK11
        go_upto_region 25 with ((with_reducible refine HNO.out.mono ?_); rintro e w13 ⟨σ13, rfl, hf13, hk13⟩; have HF13 := Lib.hid hf13; have HK13 := Lib.hid hk13; clear hf13 hk13)
        clear HNO HF12 HK12
        have hne1 : ((r5 : Int) != r5) = false := by simp
        have hne2 : ((r12 : Int) != r12) = false := by simp
        have q1 : w13.cell? ⟨w.heap.size, 1, none⟩ = some (.slice A M.length c) := cell_of_row _ _ 1 _ _ (0, 0) HF13.out.row
        by_cases hsm : M.length < 2
        case pos =>
          have hI2 : (M.length : Int) < 2 := by omega
          go_wp2
          go_ret
          exact ⟨rfl, HF13.out.bel⟩
        have hI2 : ¬ (M.length : Int) < 2 := by omega
        go_upto_region 30 with fail
        clear hne1 hne2
        obtain ⟨kk, hkk, hkl⟩ := k_at a (n := M.length) (by omega) hM
        obtain ⟨P, x, y, Q, hMe, hP, hx, hy⟩ := two_at hkl
        rw [hkk]
        have HX := Lib.hid hx
        have HY := Lib.hid hy
        have HME := Lib.hid (And.intro hMe hP)
        have hkI : (kk : Int) < (M.length : Int) := by omega
        have hkI1 : (kk : Int) + 1 < (M.length : Int) := by omega
        clear hkk hx hy hMe hP
        obtain ⟨b, off, c', hv, _, hbB, hcell⟩ := HF13.out.rd.posAt (by omega)
        injection hv with hv1 hvl hv3
        subst hv1 hv3
        clear hvl
        have HCE : Hid (b < w.heap.size ∧ ∀ k i u, (rcells M)[k * 10 + i]? = some u → w13.cell? ⟨b, off + k * 10 + i, none⟩ = some u) := Lib.hid ⟨hbB, fun k i u hu => hcell k i u hu⟩
        clear hcell hbB
        have e0 : w13.cell? ⟨b, off + kk * 10, none⟩ = some (.bool x.permit) := HCE.out.2 kk 0 _ (rcell HX.out rfl)
        have e1 : w13.cell? ⟨b, off + kk * 10 + 1, none⟩ = some (.int .i64 x.proto) := HCE.out.2 kk 1 _ (rcell HX.out rfl)
        have e2 : w13.cell? ⟨b, off + kk * 10 + 2, none⟩ = some (.int .u32 x.sa) := HCE.out.2 kk 2 _ (rcell HX.out rfl)
        have e3 : w13.cell? ⟨b, off + kk * 10 + 3, none⟩ = some (.int .i64 x.sn) := HCE.out.2 kk 3 _ (rcell HX.out rfl)
        have e4 : w13.cell? ⟨b, off + kk * 10 + 4, none⟩ = some (.int .u32 x.da) := HCE.out.2 kk 4 _ (rcell HX.out rfl)
        have e5 : w13.cell? ⟨b, off + kk * 10 + 5, none⟩ = some (.int .i64 x.dn) := HCE.out.2 kk 5 _ (rcell HX.out rfl)
        have e6 : w13.cell? ⟨b, off + kk * 10 + 6, none⟩ = some (.int .u32 x.sl) := HCE.out.2 kk 6 _ (rcell HX.out rfl)
        have e7 : w13.cell? ⟨b, off + kk * 10 + 7, none⟩ = some (.int .u32 x.sh) := HCE.out.2 kk 7 _ (rcell HX.out rfl)
        have e8 : w13.cell? ⟨b, off + kk * 10 + 8, none⟩ = some (.int .u32 x.dl) := HCE.out.2 kk 8 _ (rcell HX.out rfl)
        have e9 : w13.cell? ⟨b, off + kk * 10 + 9, none⟩ = some (.int .u32 x.dh) := HCE.out.2 kk 9 _ (rcell HX.out rfl)
        have HPX : Hid (∀ W, Calls Tryz.prog 13 #[.agg #[.bool x.permit, .int .i64 x.proto, .int .u32 x.sa, .int .i64 x.sn, .int .u32 x.da, .int .i64 x.dn, .int .u32 x.sl, .int .u32 x.sh, .int .u32 x.dl, .int .u32 x.dh]] W fun e w' => e = .returned (.agg #[.bool true, .int .i64 x.proto, .int .u32 x.sa, .int .i64 x.sn, .int .u32 x.da, .int .i64 x.dn, .int .u32 x.sl, .int .u32 x.sh, .int .u32 x.dl, .int .u32 x.dh]) ∧ Below W.heap.size W w') := Lib.hid fun W => permR_any x W
        have HSX := Lib.hid (fun (W1 : World) (hb : Below w13.heap.size w13 W1) => HF13.out.oneN HK13.out (by omega) (filtE_may HE.out x (List.mem_of_getElem? HX.out)) hb)
        go_upto_region 31 with (first | ((with_reducible refine (HPX.out _).mono ?_); rintro e w14 ⟨rfl, hb14⟩; have HB14 := Lib.hid hb14; clear hb14) | ((with_reducible refine (HSX.out _ HB14.out).mono ?_); rintro e w15 ⟨g15, σ15, rfl, hf15, hk15, hd15, ht15⟩; have HF15 := Lib.hid hf15; have HK15 := Lib.hid hk15; have HD15 := Lib.hid hd15; clear hf15 hk15 hd15 ht15))
        clear e0 e1 e2 e3 e4 e5 e6 e7 e8 e9 HPX HSX HB14 q1
        have HC15 : Hid (∀ k i u, (rcells M)[k * 10 + i]? = some u → w15.cell? ⟨b, off + k * 10 + i, none⟩ = some u) := Lib.hid (by
          obtain ⟨b2, off2, c2, hv, _, _, hcell⟩ := HF15.out.rd.posAt (by omega)
          injection hv with hv1 _ _
          injection hv1 with hv1
          injection hv1 with hv1 hv2
          subst hv1 hv2
          exact fun k i u hu => hcell k i u hu)
        have q1 : w15.cell? ⟨w.heap.size, 1, none⟩ = some (.slice (some ⟨b, off, none⟩) M.length c) := cell_of_row _ _ 1 _ _ (0, 0) HF15.out.row
        have e0 : w15.cell? ⟨b, off + (kk + 1) * 10, none⟩ = some (.bool y.permit) := HC15.out (kk + 1) 0 _ (rcell HY.out rfl)
        have e1 : w15.cell? ⟨b, off + (kk + 1) * 10 + 1, none⟩ = some (.int .i64 y.proto) := HC15.out (kk + 1) 1 _ (rcell HY.out rfl)
        have e2 : w15.cell? ⟨b, off + (kk + 1) * 10 + 2, none⟩ = some (.int .u32 y.sa) := HC15.out (kk + 1) 2 _ (rcell HY.out rfl)
        have e3 : w15.cell? ⟨b, off + (kk + 1) * 10 + 3, none⟩ = some (.int .i64 y.sn) := HC15.out (kk + 1) 3 _ (rcell HY.out rfl)
        have e4 : w15.cell? ⟨b, off + (kk + 1) * 10 + 4, none⟩ = some (.int .u32 y.da) := HC15.out (kk + 1) 4 _ (rcell HY.out rfl)
        have e5 : w15.cell? ⟨b, off + (kk + 1) * 10 + 5, none⟩ = some (.int .i64 y.dn) := HC15.out (kk + 1) 5 _ (rcell HY.out rfl)
        have e6 : w15.cell? ⟨b, off + (kk + 1) * 10 + 6, none⟩ = some (.int .u32 y.sl) := HC15.out (kk + 1) 6 _ (rcell HY.out rfl)
        have e7 : w15.cell? ⟨b, off + (kk + 1) * 10 + 7, none⟩ = some (.int .u32 y.sh) := HC15.out (kk + 1) 7 _ (rcell HY.out rfl)
        have e8 : w15.cell? ⟨b, off + (kk + 1) * 10 + 8, none⟩ = some (.int .u32 y.dl) := HC15.out (kk + 1) 8 _ (rcell HY.out rfl)
        have e9 : w15.cell? ⟨b, off + (kk + 1) * 10 + 9, none⟩ = some (.int .u32 y.dh) := HC15.out (kk + 1) 9 _ (rcell HY.out rfl)
        have HPX : Hid (∀ W, Calls Tryz.prog 13 #[.agg #[.bool y.permit, .int .i64 y.proto, .int .u32 y.sa, .int .i64 y.sn, .int .u32 y.da, .int .i64 y.dn, .int .u32 y.sl, .int .u32 y.sh, .int .u32 y.dl, .int .u32 y.dh]] W fun e w' => e = .returned (.agg #[.bool true, .int .i64 y.proto, .int .u32 y.sa, .int .i64 y.sn, .int .u32 y.da, .int .i64 y.dn, .int .u32 y.sl, .int .u32 y.sh, .int .u32 y.dl, .int .u32 y.dh]) ∧ Below W.heap.size W w') := Lib.hid fun W => permR_any y W
        have HSX := Lib.hid (fun (W1 : World) (hb : Below w15.heap.size w15 W1) => HF15.out.oneN HK15.out (by omega) (filtE_may HE.out y (List.mem_of_getElem? HY.out)) hb)
        go_upto_region 32 with (first | ((with_reducible refine (HPX.out _).mono ?_); rintro e w16 ⟨rfl, hb16⟩; have HB16 := Lib.hid hb16; clear hb16) | ((with_reducible refine (HSX.out _ HB16.out).mono ?_); rintro e w17 ⟨g17, σ17, rfl, hf17, hk17, hd17, ht17⟩; have HAN := Lib.hid (hf17.both hk17 HE.out (by omega) HX.out HY.out (HD15.out.to ht17 HF15.out.sp.ok hf17.sp.ok) hd17); clear hf17 hk17 hd17 ht17))
        clear e0 e1 e2 e3 e4 e5 e6 e7 e8 e9 HPX HSX HB16 q1 HC15 HCE
        go_upto_region 33 with ((with_reducible refine HAN.out.mono ?_); rintro e w18 ⟨q18, σ18, rfl, hf18, hk18, hd18⟩; have HF18 := Lib.hid hf18; have HK18 := Lib.hid hk18; have HD18 := Lib.hid hd18; clear hf18 hk18 hd18)
        clear HAN HF15 HK15 HD15 HF13 HK13
        by_cases hq0 : q18 = 0
        case neg =>
          have hq2 : ((q18 : Int) != 0) = true := by simpa using hq0
          go_wp2
          go_ret
          exact ⟨rfl, HF18.out.bel⟩
        subst hq0
        have HXY : Hid (∀ s, (ruleF x s && ruleF y s) = false) := Lib.hid fun s => by
          have z := Den.zero HF18.out.sp.ok
          exact (HD18.out.2 s).symm.trans (z.2 s)
        clear HD18
        have q1 : w18.cell? ⟨w.heap.size, 1, none⟩ = some (.slice (some ⟨b, off, none⟩) M.length c) := cell_of_row _ _ 1 _ _ (0, 0) HF18.out.row
        have hl18 : w.heap.size < w18.heap.size := lt_of_block HF18.out.row
        have HMA := Lib.hid (made_rowF w18 w18.heap.size rfl w18.heap.size (Nat.le_refl _))
        have HBM := Lib.hid (below1 w18 (.cells #[] 43))
        have HSRC : Hid (∀ j u, (rcells M)[j]? = some u → (w18.alloc (.cells #[] 43)).cell? ((⟨b, off, none⟩ : Addr).add j) = some u) := Lib.hid (by
          obtain ⟨b2, off2, c2, hv, _, hlt, hcell⟩ := HF18.out.rd.pos (by omega)
          injection hv with hv1 _ _
          injection hv1 with hv1
          injection hv1 with hv1 hv2
          subst hv1 hv2
          intro j u hu
          have e : (⟨b, off, none⟩ : Addr).add j = ⟨b, off + j, none⟩ := by simp [Addr.add]
          rw [e]
          exact (HBM.out.cell (p := ⟨b, off + j, none⟩) (Nat.lt_trans hlt hl18)).trans (hcell j u hu))
        go_upto_region 38 with (at_builtin; refine wpList_append_own _ rfl _ _ 22 rfl w18.heap.size 43 j0 _ 10 64 Tryz.underlying22 jif jz0 jz1 jz2 rfl (by decide) _ _ _ rfl HMA.out ⟨b, off, none⟩ M.length c (rcells M) rfl (rcells_lenO _) HSRC.out (rcells_ones _) (by unfold maxLen; omega) (by omega) (by simp) ?_; intro v1 w19 hown1 hgr1 _; have HB19 := Lib.hid (below_row HBM.out HMA.out hgr1 (by simp) (Nat.le_refl _)); rw [Nat.zero_add, List.nil_append] at hown1; obtain ⟨A1, c1, rfl, hA1⟩ := owns_form hown1; obtain ⟨g1, rfl⟩ := hA1 (by omega); have HO19 := Lib.hid hown1; clear hown1 hgr1 hA1)
        clear HSRC HMA HBM q1
        have HKE : Hid (M = P ++ x :: y :: Q) := Lib.hid HME.out.1
        have HRG : Hid (w19.rangeAt g1 0 (rcells (P ++ x :: y :: Q))) := Lib.hid (by
          rw [← HKE.out]
          intro j v hv
          rw [Nat.zero_add, HO19.out.cellAt j (by have := (List.getElem?_eq_some_iff.1 hv).1; rw [rcells_lenO] at this; exact this)]
          exact hv)
        have HFZ : Hid (∀ j, w19.frozen? ⟨g1, j, none⟩ = false) := Lib.hid HO19.out.frozenAt
        have l1 : w19.drew.rangeAt g1 (kk * 10) x.enc := (swap_loads HRG.out HME.out.2).1
        have l2 : w19.drew.rangeAt g1 ((kk + 1) * 10) y.enc := (swap_loads HRG.out HME.out.2).2
        have t1 : w19.drew.there g1 (kk * 10) 10 := (swap_range HRG.out HME.out.2 HFZ.out).1
        have t2 : (w19.drew.setCells g1 (kk * 10) y.enc).there g1 ((kk + 1) * 10) 10 := by
          have h := (swap_range (W := w19.drew) (Q := Q) (x := x) (y := y) (by simpa using HRG.out) HME.out.2 HFZ.out).2.1
          exact h
        have l3 : ((w19.drew.setCells g1 (kk * 10) y.enc).setCells g1 ((kk + 1) * 10) x.enc).rangeAt g1 0 (rcells (P ++ y :: x :: Q)) := by
          have h := (swap_range (W := w19.drew) (Q := Q) (x := x) (y := y) (by simpa using HRG.out) HME.out.2 HFZ.out).2.2
          exact h
        have L1 := Lib.hid l1
        have L2 := Lib.hid l2
        have T1 := Lib.hid t1
        have T2 := Lib.hid t2
        have L3 := Lib.hid l3
        clear l1 l2 l3 t1 t2
        have HB20 : Hid (Below w18.heap.size w18 w19.drew) := Lib.hid ⟨HB19.out.os, HB19.out.tape, HB19.out.output, HB19.out.size, HB19.out.block⟩
        have hg1 : w18.heap.size ≤ g1 := (HO19.out.lt g1 rfl).1
        have hMc : M.length ≤ c1 := by
          obtain ⟨_, _, h, _⟩ := owns_block HO19.out
          exact h
        refine wp_region_any (by kernel_rfl) ?_
        try (change wpAny _ _ _ _ _ _ _ (World.drew _))
        generalize w19.drew = w20 at *
        have hkb : (kk : Int) + 1 ≤ 12 := by omega
        have hk0 : (0 : Int) ≤ (kk : Int) + 1 := by omega
        have hwk : IntKind.i64.wrap ((kk : Int) + 1) = (kk : Int) + 1 := wrap_small hk0 hkb
        have htn : ((kk : Int) + 1).toNat = kk + 1 := by omega
        (refine wpAny_take (i := 0) (v := ?_) rfl (by kernel_rfl) (by kernel_rfl) (by kernel_rfl) (fun _ _ _ h => h) (Or.inl ⟨by rfl, ?_⟩) ?_)
        rotate_left 1
        · intro w
          go_simp
          with_reducible rfl
        (refine wpAny_take (i := 1) (v := ?_) rfl (by kernel_rfl) (by kernel_rfl) (by kernel_rfl) (fun _ _ _ h => h) (Or.inl ⟨by rfl, ?_⟩) ?_)
        rotate_left 1
        · intro w
          go_simp
          with_reducible rfl
        (refine wpAny_take (i := 2) (v := ?_) rfl (by kernel_rfl) (by kernel_rfl) (by kernel_rfl) (fun _ _ _ h => h) (Or.inl ⟨by rfl, ?_⟩) ?_)
        rotate_left 1
        · intro w
          go_simp
          with_reducible rfl
        (refine wpAny_take (i := 3) (v := ?_) rfl (by kernel_rfl) (by kernel_rfl) (by kernel_rfl) (fun _ _ _ h => h) (Or.inl ⟨by rfl, ?_⟩) ?_)
        rotate_left 1
        · intro w
          go_simp
          with_reducible rfl
        (refine wpAny_take (i := 4) (v := ?_) rfl (by kernel_rfl) (by kernel_rfl) (by kernel_rfl) (fun _ _ _ h => h) (Or.inl ⟨by rfl, ?_⟩) ?_)
        rotate_left 1
        · intro w
          go_simp
          with_reducible rfl
        (refine wpAny_take (i := 5) (v := ?_) rfl (by kernel_rfl) (by kernel_rfl) (by kernel_rfl) (fun _ _ _ h => h) (Or.inl ⟨by rfl, ?_⟩) ?_)
        rotate_left 1
        · intro w
          go_simp
          with_reducible rfl
        (refine wpAny_take (i := 6) (v := ?_) rfl (by kernel_rfl) (by kernel_rfl) (by kernel_rfl) (fun _ _ _ h => h) (Or.inl ⟨by rfl, ?_⟩) ?_)
        rotate_left 1
        · intro w
          go_simp
          with_reducible rfl
        (refine wpAny_take (i := 7) (v := ?_) rfl (by kernel_rfl) (by kernel_rfl) (by kernel_rfl) (fun _ _ _ h => h) (Or.inl ⟨by rfl, ?_⟩) ?_)
        rotate_left 1
        · intro w
          go_simp
          with_reducible rfl
        (refine wpAny_take (i := 10) (v := ?_) rfl (by kernel_rfl) (by kernel_rfl) (by kernel_rfl) (fun _ _ _ h => h) (Or.inl ⟨by rfl, ?_⟩) ?_)
        rotate_left 1
        · intro w
          go_simp
          with_reducible rfl
        (refine wpAny_take (i := 11) (v := ?_) rfl (by kernel_rfl) (by kernel_rfl) (by kernel_rfl) (fun _ _ _ h => h) (Or.inl ⟨by rfl, ?_⟩) ?_)
        rotate_left 1
        · intro w
          go_simp
          with_reducible rfl
        (refine wpAny_take (i := 8) (v := ?_) rfl (by kernel_rfl) (by kernel_rfl) (by kernel_rfl) (fun _ _ _ h => h) (Or.inl ⟨by rfl, ?_⟩) ?_)
        rotate_left 1
        · intro w
          go_simp
          with_reducible rfl
        (refine wpAny_take (i := 12) (v := ?_) rfl (by kernel_rfl) (by kernel_rfl) (by kernel_rfl) (fun _ _ _ h => h) (Or.inl ⟨by rfl, ?_⟩) ?_)
        rotate_left 1
        · intro w
          go_simp
          with_reducible rfl
        simp only [List.getElem_toArray, List.getElem_cons_zero, List.getElem_cons_succ, Act.put, List.setIfInBounds_toArray, List.set_cons_zero, List.set_cons_succ]
        refine wpAny_ready (rs := [9, 13]) (by kernel_rfl) (by simp) ?_
        refine AllReady.cons rfl (fun K hK => ?_) (AllReady.cons rfl (fun K hK => ?_) AllReady.nil)
        · rw [if_pos (by rfl)]
          refine wp_load_mid 43 _ rfl g1 ((kk + 1) * 10) rfl y.enc _ L2.out Tryz.underlying43 rfl (by kernel_rfl) ?_
          refine hK _ _ ?_
          clear hK K
          simp only [List.getElem_toArray, List.getElem_cons_zero, List.getElem_cons_succ, Act.put, List.setIfInBounds_toArray, List.set_cons_zero, List.set_cons_succ]
          refine wpAny_ready (rs := [13]) (by kernel_rfl) (by simp) ?_
          refine AllReady.cons rfl (fun K hK => ?_) AllReady.nil
          rw [if_pos (by rfl)]
          refine wp_load_mid 43 _ rfl g1 (kk * 10) rfl x.enc _ L1.out Tryz.underlying43 rfl (by kernel_rfl) ?_
          refine hK _ _ ?_
          clear hK K
          simp only [List.getElem_toArray, List.getElem_cons_zero, List.getElem_cons_succ, Act.put, List.setIfInBounds_toArray, List.set_cons_zero, List.set_cons_succ]
          refine wpAny_take (i := 14) (v := ?_) rfl (by kernel_rfl) (by kernel_rfl) (by kernel_rfl) (fun _ _ _ h => h) (Or.inl ⟨by rfl, ?_⟩) ?_
          rotate_left 1
          · intro w
            go_simp
            set_option maxHeartbeats 200000 in with_reducible rfl
          simp only [List.getElem_toArray, List.getElem_cons_zero, List.getElem_cons_succ, Act.put, List.setIfInBounds_toArray, List.set_cons_zero, List.set_cons_succ]
          refine wpAny_ready (rs := [15]) (by kernel_rfl) (by simp) ?_
          refine AllReady.cons rfl (fun K hK => ?_) AllReady.nil
          rw [if_pos (by rfl)]
          refine wp_store_mid 43 _ _ rfl g1 (kk * 10) y.enc.toArray ?q1 ?q2 ?q3 ?q4 ?q5 ?_
          case q1 => rfl
          case q2 => rfl
          case q3 => exact T1.out
          case q4 => kernel_rfl
          case q5 => exact all_oneCell_toArray (renc_oneO y)
          refine hK _ _ ?_
          clear hK K
          simp only [List.getElem_toArray, List.getElem_cons_zero, List.getElem_cons_succ, Act.put]
          have HB21 := Lib.hid (below_setsF g1 hg1 y.enc (kk * 10) _ HB20.out)
          generalize w20.setCells g1 (kk * 10) y.enc = w21 at *
          refine wpAny_take (i := 16) (v := ?_) rfl (by kernel_rfl) (by kernel_rfl) (by kernel_rfl) (fun _ _ _ h => h) (Or.inl ⟨by rfl, ?_⟩) ?_
          rotate_left 1
          · intro w
            go_simp
            with_reducible rfl
          simp only [List.getElem_toArray, List.getElem_cons_zero, List.getElem_cons_succ, Act.put, List.setIfInBounds_toArray, List.set_cons_zero, List.set_cons_succ]
          refine (show ∀ f : Nat, wpAny _ _ _ _ (f + 1) _ _ _ from ?_) 0
          intro f
          refine wpAny_ready (fuel := f) (rs := [17]) (by kernel_rfl) (by simp) ?_
          refine AllReady.cons rfl (fun K hK => ?_) AllReady.nil
          refine ite_of (by simp [Region.wanted]) ?_
          refine wp_store_mid 43 _ _ rfl g1 ((kk + 1) * 10) x.enc.toArray ?q1 ?q2 ?q3 ?q4 ?q5 ?_
          case q1 => rfl
          case q2 => rfl
          case q3 => exact T2.out
          case q4 => kernel_rfl
          case q5 => exact all_oneCell_toArray (renc_oneO x)
          refine hK _ _ ?_
          clear hK K
          simp only [List.getElem_toArray, List.getElem_cons_zero, List.getElem_cons_succ, Act.put]
          refine wpAny_done (by kernel_rfl) ?_ _
          have HBW := Lib.hid (below_setsF g1 hg1 x.enc ((kk + 1) * 10) _ HB21.out)
          have HFN := Lib.hid (HF18.out.next HBW.out)
          have HSW := Lib.hid (HFN.out.swappedE HK18.out HKE.out HE.out hM (by omega) HXY.out ⟨#[]⟩ (HF18.out.rdr (cc := c1) HBW.out (by rw [HKE.out]; simp) hg1 hMc L3.out))
          clear L1 L2 L3 T1 T2 HF18 HK18 HB20 HB21 HBW hkb hk0 hwk htn
          generalize w21.setCells g1 ((kk + 1) * 10) x.enc = w22 at *
          have ha1 : ((r5 : Int) == r5) = true := by simp
          go_wp2_with ((with_reducible refine HSW.out.mono ?_); rintro e w23 ⟨σ23, rfl, hf23⟩; have HF23 := Lib.hid hf23; clear hf23)
          go_ret
          exact ⟨rfl, HF23.out.bel⟩
        · rw [if_pos (by rfl)]
          refine wp_load_mid 43 _ rfl g1 (kk * 10) rfl x.enc _ L1.out Tryz.underlying43 rfl (by kernel_rfl) ?_
          refine hK _ _ ?_
          clear hK K
          simp only [List.getElem_toArray, List.getElem_cons_zero, List.getElem_cons_succ, Act.put, List.setIfInBounds_toArray, List.set_cons_zero, List.set_cons_succ]
          refine wpAny_ready (rs := [9]) (by kernel_rfl) (by simp) ?_
          refine AllReady.cons rfl (fun K hK => ?_) AllReady.nil
          rw [if_pos (by rfl)]
          refine wp_load_mid 43 _ rfl g1 ((kk + 1) * 10) rfl y.enc _ L2.out Tryz.underlying43 rfl (by kernel_rfl) ?_
          refine hK _ _ ?_
          clear hK K
          simp only [List.getElem_toArray, List.getElem_cons_zero, List.getElem_cons_succ, Act.put, List.setIfInBounds_toArray, List.set_cons_zero, List.set_cons_succ]
          refine wpAny_take (i := 14) (v := ?_) rfl (by kernel_rfl) (by kernel_rfl) (by kernel_rfl) (fun _ _ _ h => h) (Or.inl ⟨by rfl, ?_⟩) ?_
          rotate_left 1
          · intro w
            go_simp
            set_option maxHeartbeats 200000 in with_reducible rfl
          simp only [List.getElem_toArray, List.getElem_cons_zero, List.getElem_cons_succ, Act.put, List.setIfInBounds_toArray, List.set_cons_zero, List.set_cons_succ]
          refine wpAny_ready (rs := [15]) (by kernel_rfl) (by simp) ?_
          refine AllReady.cons rfl (fun K hK => ?_) AllReady.nil
          rw [if_pos (by rfl)]
          refine wp_store_mid 43 _ _ rfl g1 (kk * 10) y.enc.toArray ?q1 ?q2 ?q3 ?q4 ?q5 ?_
          case q1 => rfl
          case q2 => rfl
          case q3 => exact T1.out
          case q4 => kernel_rfl
          case q5 => exact all_oneCell_toArray (renc_oneO y)
          refine hK _ _ ?_
          clear hK K
          simp only [List.getElem_toArray, List.getElem_cons_zero, List.getElem_cons_succ, Act.put]
          have HB21 := Lib.hid (below_setsF g1 hg1 y.enc (kk * 10) _ HB20.out)
          generalize w20.setCells g1 (kk * 10) y.enc = w21 at *
          refine wpAny_take (i := 16) (v := ?_) rfl (by kernel_rfl) (by kernel_rfl) (by kernel_rfl) (fun _ _ _ h => h) (Or.inl ⟨by rfl, ?_⟩) ?_
          rotate_left 1
          · intro w
            go_simp
            with_reducible rfl
          simp only [List.getElem_toArray, List.getElem_cons_zero, List.getElem_cons_succ, Act.put, List.setIfInBounds_toArray, List.set_cons_zero, List.set_cons_succ]
          refine (show ∀ f : Nat, wpAny _ _ _ _ (f + 1) _ _ _ from ?_) 0
          intro f
          refine wpAny_ready (fuel := f) (rs := [17]) (by kernel_rfl) (by simp) ?_
          refine AllReady.cons rfl (fun K hK => ?_) AllReady.nil
          refine ite_of (by simp [Region.wanted]) ?_
          refine wp_store_mid 43 _ _ rfl g1 ((kk + 1) * 10) x.enc.toArray ?q1 ?q2 ?q3 ?q4 ?q5 ?_
          case q1 => rfl
          case q2 => rfl
          case q3 => exact T2.out
          case q4 => kernel_rfl
          case q5 => exact all_oneCell_toArray (renc_oneO x)
          refine hK _ _ ?_
          clear hK K
          simp only [List.getElem_toArray, List.getElem_cons_zero, List.getElem_cons_succ, Act.put]
          refine wpAny_done (by kernel_rfl) ?_ _
          have HBW := Lib.hid (below_setsF g1 hg1 x.enc ((kk + 1) * 10) _ HB21.out)
          have HFN := Lib.hid (HF18.out.next HBW.out)
          have HSW := Lib.hid (HFN.out.swappedE HK18.out HKE.out HE.out hM (by omega) HXY.out ⟨#[]⟩ (HF18.out.rdr (cc := c1) HBW.out (by rw [HKE.out]; simp) hg1 hMc L3.out))
          clear L1 L2 L3 T1 T2 HF18 HK18 HB20 HB21 HBW hkb hk0 hwk htn
          generalize w21.setCells g1 ((kk + 1) * 10) x.enc = w22 at *
          have ha1 : ((r5 : Int) == r5) = true := by simp
          go_wp2_with ((with_reducible refine HSW.out.mono ?_); rintro e w23 ⟨σ23, rfl, hf23⟩; have HF23 := Lib.hid hf23; clear hf23)
          go_ret
          exact ⟨rfl, HF23.out.bel⟩
      have hI : (k : Int) < (ns.length : Int) := by omega
      obtain ⟨q, hq⟩ : ∃ q, ns[k]? = some q := ⟨_, List.getElem?_eq_getElem hlt⟩
      obtain ⟨x, hx⟩ : ∃ x, M[k]? = some x := ⟨_, List.getElem?_eq_getElem (by rw [← HLN.out]; exact hlt)⟩
      have HX := Lib.hid hx
      have HQ := Lib.hid (nzB_eq hq)
      obtain ⟨bn, on, cn', hvn, _, hbn, hcn⟩ := HON.out.pos (by omega)
      injection hvn with hvn1 _ hvn3
      subst hvn1 hvn3
      have n0 : wr.cell? ⟨bn, on + k, none⟩ = some (.int .i64 (q : Int)) := (HO.out.bel.cell (p := ⟨bn, on + k, none⟩) hbn).trans (hcn k _ (by simp [ncl, hq]))
      clear hcn hq
      obtain ⟨b, off, c', hv, _, hbB, hcell⟩ := HF6.out.rd.posAt (by have := HLN.out; omega)
      injection hv with hv1 hvl hv3
      subst hv1 hv3
      clear hvl
      have HCE : Hid (b < w6.heap.size ∧ ∀ i u, x.enc[i]? = some u → w6.cell? ⟨b, off + k * 10 + i, none⟩ = some u) := Lib.hid ⟨Nat.lt_of_lt_of_le hbB HF6.out.bel.size, fun i u hu => hcell k i u (rcell hx hu)⟩
      have HML : Hid (k < M.length) := Lib.hid (by rw [← HLN.out]; exact hlt)
      clear hcell hbB hx
      go_upto_if 75 with fail
      go_cut [] (fun wx => ∃ vq2 : Value, Hid (OrSt w6 wx vq2 vt (keepR (nzB ns) M (k + 1)) ((M.map flipR).take k)))
      case first =>
        by_cases hq0 : q = 0
        · subst hq0
          have HNO : Hid (keepR (nzB ns) M (k + 1) = keepR (nzB ns) M k) := Lib.hid (keepR_no HQ.out)
          go_wp2
          go_meet
          exact ⟨_, by rw [HNO.out]; exact HO⟩
        · have hq2 : ((q : Int) == 0) = false := by simpa using hq0
          have HYES : Hid (keepR (nzB ns) M (k + 1) = keepR (nzB ns) M k ++ [x]) := Lib.hid (keepR_yes HX.out (HQ.out.trans (by simpa using hq0)))
          have hkl := keepR_len (nzB ns) M k
          go_upto_region 17 with fail
          obtain ⟨Q, hQ⟩ : ∃ Q, keepR (nzB ns) M k = Q := ⟨_, rfl⟩
          rw [hQ] at HO HYES hkl
          clear hQ
          obtain ⟨Aq, cq, rfl, _⟩ := owns_form HO.out.qr
          have hwd : Below wr.heap.size wr { wr with drawn := wr.drawn + 1 } := ⟨rfl, rfl, rfl, Nat.le_refl _, fun _ _ => rfl⟩
          have HO4 := Lib.hid (HO.out.next hwd)
          clear hwd HO n0
          have hSof : ∀ v : World, Below w6.heap.size w6 v ∧ v.heap[w6.heap.size]? = some (.cells #[.string ⟨#[]⟩, .slice Aq Q.length cq] 24 (0, 0)) → RdS w6.heap.size (.slice Aq Q.length cq) w.heap.size (.slice (some ⟨b, off, none⟩) M.length c) b (off + k * 10) x v := fun v hv => ⟨cell_of_row _ _ 1 _ _ (0, 0) hv.2, cell_of_row _ _ 1 _ _ (0, 0) (blk_below hv.1 HF6.out.row), fun i u hu => (hv.1.cell (p := ⟨b, off + k * 10 + i, none⟩) HCE.out.1).trans (HCE.out.2 i u hu)⟩
          generalize hSdef : RdS w6.heap.size (.slice Aq Q.length cq) w.heap.size (.slice (some ⟨b, off, none⟩) M.length c) b (off + k * 10) x = S at *
          have HSO := Lib.hid hSof
          clear hSof
          have HSE : Hid (∀ v : World, S v → RdS w6.heap.size (.slice Aq Q.length cq) w.heap.size (.slice (some ⟨b, off, none⟩) M.length c) b (off + k * 10) x v) := Lib.hid (by rw [hSdef]; exact fun v h => h)
          clear hSdef
          have hkM := HML.out
          have hkI : (k : Int) < (M.length : Int) := by omega
          haveI : Nonempty (InW S) := ⟨⟨_, HSO.out _ ⟨HO4.out.bel, HO4.out.bq⟩⟩⟩
          refine wp_region_mixZ S 10 [(0, false), (1, false), (2, false), (3, false), (4, false), (5, false), (6, false), (7, true), (8, true), (9, false)] (by kernel_rfl) (by kernel_rfl) (HSO.out _ ⟨HO4.out.bel, HO4.out.bq⟩) ?_
          generalize { wr with drawn := wr.drawn + 1 } = W4 at *
          have e0 : ∀ p : InW S, p.w.cell? ⟨w6.heap.size, 1, none⟩ = some (.slice Aq Q.length cq) := fun p => (HSE.out p.w p.h).1
          have e1 : ∀ p : InW S, p.w.cell? ⟨w.heap.size, 1, none⟩ = some (.slice (some ⟨b, off, none⟩) M.length c) := fun p => (HSE.out p.w p.h).2.1
          have e2 : ∀ p : InW S, p.w.cell? ⟨b, off + k * 10, none⟩ = some (.bool x.permit) := fun p => (HSE.out p.w p.h).2.2 0 _ rfl
          have e3 : ∀ p : InW S, p.w.cell? ⟨b, off + k * 10 + 1, none⟩ = some (.int .i64 x.proto) := fun p => (HSE.out p.w p.h).2.2 1 _ rfl
          have e4 : ∀ p : InW S, p.w.cell? ⟨b, off + k * 10 + 2, none⟩ = some (.int .u32 x.sa) := fun p => (HSE.out p.w p.h).2.2 2 _ rfl
          have e5 : ∀ p : InW S, p.w.cell? ⟨b, off + k * 10 + 3, none⟩ = some (.int .i64 x.sn) := fun p => (HSE.out p.w p.h).2.2 3 _ rfl
          have e6 : ∀ p : InW S, p.w.cell? ⟨b, off + k * 10 + 4, none⟩ = some (.int .u32 x.da) := fun p => (HSE.out p.w p.h).2.2 4 _ rfl
          have e7 : ∀ p : InW S, p.w.cell? ⟨b, off + k * 10 + 5, none⟩ = some (.int .i64 x.dn) := fun p => (HSE.out p.w p.h).2.2 5 _ rfl
          have e8 : ∀ p : InW S, p.w.cell? ⟨b, off + k * 10 + 6, none⟩ = some (.int .u32 x.sl) := fun p => (HSE.out p.w p.h).2.2 6 _ rfl
          have e9 : ∀ p : InW S, p.w.cell? ⟨b, off + k * 10 + 7, none⟩ = some (.int .u32 x.sh) := fun p => (HSE.out p.w p.h).2.2 7 _ rfl
          have e10 : ∀ p : InW S, p.w.cell? ⟨b, off + k * 10 + 8, none⟩ = some (.int .u32 x.dl) := fun p => (HSE.out p.w p.h).2.2 8 _ rfl
          have e11 : ∀ p : InW S, p.w.cell? ⟨b, off + k * 10 + 9, none⟩ = some (.int .u32 x.dh) := fun p => (HSE.out p.w p.h).2.2 9 _ rfl
          clear HSE
          refine mixZ_take [0, 1, 2, 3, 4, 5, 6] [_, _, _, _, _, _, _] rfl rfl ?_
          simp only [List.getElem_toArray, List.getElem_cons_zero, List.getElem_cons_succ]
          repeat (go_big_quiet_step (fail))
          refine wpQuiet_nil ?_
          clear e0 e1 e2 e3 e4 e5 e6 e7 e8 e9 e10 e11
          refine mixZ_bar rfl (by rfl) ?_
          simp only [List.getElem_toArray, List.getElem_cons_zero, List.getElem_cons_succ]
          go_simp
          have hbx := HO4.out.lt
          refine ⟨S, HSO.out _ ⟨(HO4.out.next (below1 W4 _)).bel, (HO4.out.next (below1 W4 _)).bq⟩, fun _ h => h, ?_⟩
          refine mixZ_bar rfl (by rfl) ?_
          simp only [List.getElem_toArray, List.getElem_cons_zero, List.getElem_cons_succ]
          refine oper_pushM (v := .slice Aq Q.length cq) rfl _ _ 22 rfl 43 j0 _ 10 64 Tryz.underlying22 jif jz0 jz1 jz2 rfl (by decide) (by decide) 1 (by decide) (by decide) [.bool x.permit, .int .i64 x.proto, .int .u32 x.sa, .int .i64 x.sn, .int .u32 x.da, .int .i64 x.dn, .int .u32 x.sl, .int .u32 x.sh, .int .u32 x.dl, .int .u32 x.dh] rfl rfl rfl HO4.out.qr rfl (renc_oneO x) (by omega) hbx ?_
          intro v5 w8 ho5 hg5 hm5
          have HG := Lib.hid (HO4.out.growQ hg5)
          have HO6 := Lib.hid (HO4.out.pushQ (x := x) ho5 hg5 hm5)
          obtain ⟨A5, c5, rfl, _⟩ := owns_form ho5
          clear ho5 hg5 hm5
          refine ⟨S, HSO.out _ HG.out, fun _ h => h, ?_⟩
          go_simp
          refine mixZ_take [9] [_] rfl rfl ?_
          simp only [List.getElem_toArray, List.getElem_cons_zero, List.getElem_cons_succ]
          repeat (go_big_quiet_step (fail))
          refine wpQuiet_nil ?_
          have c7 : w8.cell? ⟨w6.heap.size, 1, none⟩ = some (.slice Aq Q.length cq) := cell_of_row _ _ 1 _ _ (0, 0) HG.out.2
          have f7 := frozen_of_row _ _ 1 _ _ HG.out.2
          refine mixZ_end rfl (by rfl) ?_
          simp only [List.getElem_toArray, List.getElem_cons_zero, List.getElem_cons_succ]
          go_simp
          clear c7 f7 HG HO4
          generalize w8.setCell ⟨w6.heap.size, 1, none⟩ (.slice A5 (Q.length + 1) c5) = w9 at *
          go_wp2
          go_meet
          exact ⟨_, by rw [HYES.out]; exact HO6⟩
      case rest =>
        obtain ⟨vq2, HO⟩ := hcut
        clear n0 HQ
        have hkI : (k : Int) < (M.length : Int) := by have := HML.out; omega
        have d1 : wc.cell? ⟨w.heap.size, 1, none⟩ = some (.slice (some ⟨b, off, none⟩) M.length c) := cell_of_row _ _ 1 _ _ (0, 0) (blk_below HO.out.bel HF6.out.row)
        have e0 : wc.cell? ⟨b, off + k * 10, none⟩ = some (.bool x.permit) := (HO.out.bel.cell (p := ⟨b, off + k * 10, none⟩) HCE.out.1).trans (HCE.out.2 0 _ rfl)
        have e1 : wc.cell? ⟨b, off + k * 10 + 1, none⟩ = some (.int .i64 x.proto) := (HO.out.bel.cell (p := ⟨b, off + k * 10 + 1, none⟩) HCE.out.1).trans (HCE.out.2 1 _ rfl)
        have e2 : wc.cell? ⟨b, off + k * 10 + 2, none⟩ = some (.int .u32 x.sa) := (HO.out.bel.cell (p := ⟨b, off + k * 10 + 2, none⟩) HCE.out.1).trans (HCE.out.2 2 _ rfl)
        have e3 : wc.cell? ⟨b, off + k * 10 + 3, none⟩ = some (.int .i64 x.sn) := (HO.out.bel.cell (p := ⟨b, off + k * 10 + 3, none⟩) HCE.out.1).trans (HCE.out.2 3 _ rfl)
        have e4 : wc.cell? ⟨b, off + k * 10 + 4, none⟩ = some (.int .u32 x.da) := (HO.out.bel.cell (p := ⟨b, off + k * 10 + 4, none⟩) HCE.out.1).trans (HCE.out.2 4 _ rfl)
        have e5 : wc.cell? ⟨b, off + k * 10 + 5, none⟩ = some (.int .i64 x.dn) := (HO.out.bel.cell (p := ⟨b, off + k * 10 + 5, none⟩) HCE.out.1).trans (HCE.out.2 5 _ rfl)
        have e6 : wc.cell? ⟨b, off + k * 10 + 6, none⟩ = some (.int .u32 x.sl) := (HO.out.bel.cell (p := ⟨b, off + k * 10 + 6, none⟩) HCE.out.1).trans (HCE.out.2 6 _ rfl)
        have e7 : wc.cell? ⟨b, off + k * 10 + 7, none⟩ = some (.int .u32 x.sh) := (HO.out.bel.cell (p := ⟨b, off + k * 10 + 7, none⟩) HCE.out.1).trans (HCE.out.2 7 _ rfl)
        have e8 : wc.cell? ⟨b, off + k * 10 + 8, none⟩ = some (.int .u32 x.dl) := (HO.out.bel.cell (p := ⟨b, off + k * 10 + 8, none⟩) HCE.out.1).trans (HCE.out.2 8 _ rfl)
        have e9 : wc.cell? ⟨b, off + k * 10 + 9, none⟩ = some (.int .u32 x.dh) := (HO.out.bel.cell (p := ⟨b, off + k * 10 + 9, none⟩) HCE.out.1).trans (HCE.out.2 9 _ rfl)
        go_upto_region 19 with fail
        clear d1 e0 e1 e2 e3 e4 e5 e6 e7 e8 e9 hkI
        have KX := Lib.hid (blk1 wc (.cells #[.bool x.permit, .int .i64 x.proto, .int .u32 x.sa, .int .i64 x.sn, .int .u32 x.da, .int .i64 x.dn, .int .u32 x.sl, .int .u32 x.sh, .int .u32 x.dl, .int .u32 x.dh] 43))
        have HO9 := Lib.hid (HO.out.setNew (g := wc.heap.size) (i := 0) (u := .bool (!x.permit)) (Nat.le_refl _) (below1 wc (.cells #[.bool x.permit, .int .i64 x.proto, .int .u32 x.sa, .int .i64 x.sn, .int .u32 x.da, .int .i64 x.dn, .int .u32 x.sl, .int .u32 x.sh, .int .u32 x.dl, .int .u32 x.dh] 43)))
        have KX2 : Hid (((wc.alloc (.cells #[.bool x.permit, .int .i64 x.proto, .int .u32 x.sa, .int .i64 x.sn, .int .u32 x.da, .int .i64 x.dn, .int .u32 x.sl, .int .u32 x.sh, .int .u32 x.dl, .int .u32 x.dh] 43)).setCell ⟨wc.heap.size, 0, none⟩ (.bool (!x.permit))).heap[wc.heap.size]? = some (.cells #[.bool (!x.permit), .int .i64 x.proto, .int .u32 x.sa, .int .i64 x.sn, .int .u32 x.da, .int .i64 x.dn, .int .u32 x.sl, .int .u32 x.sh, .int .u32 x.dl, .int .u32 x.dh] 43 (0, 0))) := Lib.hid (set_at KX.out)
        generalize wc.alloc (.cells #[.bool x.permit, .int .i64 x.proto, .int .u32 x.sa, .int .i64 x.sn, .int .u32 x.da, .int .i64 x.dn, .int .u32 x.sl, .int .u32 x.sh, .int .u32 x.dl, .int .u32 x.dh] 43) = w8 at *
        have c0 : w8.cell? ⟨wc.heap.size, 0, none⟩ = some (.bool x.permit) := cell_of_row _ _ 0 _ _ (0, 0) KX.out
        have f0 := frozen_of_row _ _ 0 _ _ KX.out
        go_upto_region 20 with fail
        clear c0 f0 KX
        generalize w8.setCell ⟨wc.heap.size, 0, none⟩ (.bool (!x.permit)) = w9 at *
        obtain ⟨c0, c1, c2, c3, c4, c5, c6, c7, c8, c9⟩ := rule_cells KX2.out
        obtain ⟨TT, hTT⟩ : ∃ TT, (M.map flipR).take k = TT := ⟨_, rfl⟩
        have hTl : TT.length ≤ 12 := by rw [← hTT, List.length_take]; omega
        rw [hTT] at HO9 HO
        have HTT := Lib.hid hTT
        clear hTT
        obtain ⟨At, ct, rfl, _⟩ := owns_form HO9.out.tr
        have q1 : w9.cell? ⟨w6.heap.size + 1, 1, none⟩ = some (.slice At TT.length ct) := cell_of_row _ _ 1 _ _ (0, 0) HO9.out.bt
        have hbs := HO9.out.lt
        go_wp2_with (at_builtin; refine wpList_push2 (v := .slice At TT.length ct) rfl _ _ 22 rfl 43 j0 _ 10 64 Tryz.underlying22 jif jz0 jz1 jz2 rfl (by decide) (by decide) (flipR x).enc rfl rfl rfl HO9.out.tr rfl (renc_oneO _) (by omega) hbs ?_; intro v3 w10 ho3 hg3 hm3; obtain ⟨A3, c3, rfl, _⟩ := owns_form ho3; have HG := Lib.hid (HO9.out.growT hg3); have HOA := Lib.hid (HO9.out.pushT (x := flipR x) ho3 hg3 hm3); have g7 : w10.cell? ⟨w6.heap.size + 1, 1, none⟩ = some (.slice At TT.length ct) := cell_of_row _ _ 1 _ _ (0, 0) HG.out.2; have f7 := frozen_of_row _ _ 1 _ _ HG.out.2; clear ho3 hg3 hm3)
        exact ⟨⟨k + 1, _, _, by go_num, by omega, Lib.hid (by rw [take_flip HX.out, HTT.out]; exact HOA.out)⟩, by simp only [intOf]; omega⟩
end
end Go.Proofs.YtbahehmfhjkgeaaGreat

/-
  The walk of the law FilterDecides (written by wip/gen/genlawfd.py).
-/
namespace Go.Proofs.YtbahehmfhjkgeaaGreat
open Go Go.RowKit Go.Sort

def HeaderV.enc (h : HeaderV) : List Value := [.int .u32 h.src, .int .u32 h.dst, .int .u8 h.proto, .int .u16 h.sp, .int .u16 h.dp]
theorem header_len (h : HeaderV) : h.enc.length = 5 := rfl
def hcells (L : List HeaderV) : List Value := L.flatMap HeaderV.enc
theorem hcell {L : List HeaderV} {k i : Nat} {h : HeaderV} {v : Value} (hr : L[k]? = some h) (hv : h.enc[i]? = some v) : (hcells L)[k * 5 + i]? = some v := flat_get HeaderV.enc 5 header_len L k i h v hr hv
/-- A slice cut at its end. -/
theorem Rd.take {α : Type} {enc : α → List Value} {k : Nat} (hk : ∀ x, (enc x).length = k) {w : World} {B : Nat} {A : Option Addr} {c n m : Nat} {L : List α} (h : Rd w B k (.slice A n c) n (L.flatMap enc)) (hn : L.length = n) (hm : m ≤ n) :
    Rd w B k (.slice A m c) m ((L.take m).flatMap enc) := by
  obtain ⟨A', c', hv, hc, hl, hp⟩ := h
  injection hv with h1 h2 h3
  subst h1 h3
  have hlen : (L.take m).length = m := by simp; omega
  refine ⟨A, c, rfl, by omega, by rw [flat_len enc k hk, hlen], fun hm0 => ?_⟩
  obtain ⟨b, off, hA, hB, hcell⟩ := hp (by omega)
  refine ⟨b, off, hA, hB, fun j u hu => hcell j u ?_⟩
  have e : L.flatMap enc = (L.take m).flatMap enc ++ (L.drop m).flatMap enc := by rw [← List.flatMap_append, List.take_append_drop]
  rw [e, List.getElem?_append_left (List.getElem?_eq_some_iff.1 hu).1]
  exact hu

/-- What the law's own memory holds behind its first statements: the filter as it was handed in (cut), its copy, the rule. -/
def FDst (nm : ByteArray) (M : List RuleV) (A2 : Option Addr) (c0 : Nat) (A3 : Option Addr) (c3 : Nat) (r : RuleV) (w : World) (g : Nat) (W : World) : Prop :=
  W.heap[g]? = some (.cells #[.string nm, .slice A3 M.length c3] 24 (0, 0)) ∧ Rd W W.heap.size 10 (.slice A3 M.length c3) M.length (rcells M) ∧ W.heap[w.heap.size]? = some (.cells #[.string nm, .slice A2 M.length c0] 24 (0, 0)) ∧ W.heap[w.heap.size + 1]? = some (.cells #[.bool r.permit, .int .i64 r.proto, .int .u32 r.sa, .int .i64 r.sn, .int .u32 r.da, .int .i64 r.dn, .int .u32 r.sl, .int .u32 r.sh, .int .u32 r.dl, .int .u32 r.dh] 43 (0, 0)) ∧ Rd W w.heap.size 10 (.slice A2 M.length c0) M.length (rcells M) ∧ Below w.heap.size w W
section
variable {nm : ByteArray} {M : List RuleV} {A2 : Option Addr} {c0 : Nat} {A3 : Option Addr} {c3 : Nat} {r : RuleV} {w : World} {g : Nat} {W W' : World}
theorem FDst.next (h : FDst nm M A2 c0 A3 c3 r w g W) (hb : Below W.heap.size W W') : FDst nm M A2 c0 A3 c3 r w g W' := by
  obtain ⟨h1, h2, h3, h4, h5, h6⟩ := h
  exact ⟨blk_below hb h1, (h2.below hb).mono hb.size, blk_below hb h3, blk_below hb h4, h5.below (hb.mono h6.size), h6.trans (hb.mono h6.size)⟩
theorem FDst.own (h : FDst nm M A2 c0 A3 c3 r w g W) : W.cell? ⟨g, 0, none⟩ = some (.string nm) ∧ W.cell? ⟨g, 1, none⟩ = some (.slice A3 M.length c3) := ⟨(two_cells h.1).1, (two_cells h.1).2.1⟩
theorem FDst.its (h : FDst nm M A2 c0 A3 c3 r w g W) : W.cell? ⟨w.heap.size, 0, none⟩ = some (.string nm) ∧ W.cell? ⟨w.heap.size, 1, none⟩ = some (.slice A2 M.length c0) := ⟨(two_cells h.2.2.1).1, (two_cells h.2.2.1).2.1⟩
theorem FDst.rule (h : FDst nm M A2 c0 A3 c3 r w g W) : W.cell? ⟨w.heap.size + 1, 0, none⟩ = some (.bool r.permit) ∧ W.cell? ⟨w.heap.size + 1, 1, none⟩ = some (.int .i64 r.proto) ∧ W.cell? ⟨w.heap.size + 1, 2, none⟩ = some (.int .u32 r.sa) ∧ W.cell? ⟨w.heap.size + 1, 3, none⟩ = some (.int .i64 r.sn) ∧ W.cell? ⟨w.heap.size + 1, 4, none⟩ = some (.int .u32 r.da) ∧ W.cell? ⟨w.heap.size + 1, 5, none⟩ = some (.int .i64 r.dn) ∧ W.cell? ⟨w.heap.size + 1, 6, none⟩ = some (.int .u32 r.sl) ∧ W.cell? ⟨w.heap.size + 1, 7, none⟩ = some (.int .u32 r.sh) ∧ W.cell? ⟨w.heap.size + 1, 8, none⟩ = some (.int .u32 r.dl) ∧ W.cell? ⟨w.heap.size + 1, 9, none⟩ = some (.int .u32 r.dh) :=
  ⟨cell_of_row W (w.heap.size + 1) 0 _ _ (0, 0) h.2.2.2.1, cell_of_row W (w.heap.size + 1) 1 _ _ (0, 0) h.2.2.2.1, cell_of_row W (w.heap.size + 1) 2 _ _ (0, 0) h.2.2.2.1, cell_of_row W (w.heap.size + 1) 3 _ _ (0, 0) h.2.2.2.1, cell_of_row W (w.heap.size + 1) 4 _ _ (0, 0) h.2.2.2.1, cell_of_row W (w.heap.size + 1) 5 _ _ (0, 0) h.2.2.2.1, cell_of_row W (w.heap.size + 1) 6 _ _ (0, 0) h.2.2.2.1, cell_of_row W (w.heap.size + 1) 7 _ _ (0, 0) h.2.2.2.1, cell_of_row W (w.heap.size + 1) 8 _ _ (0, 0) h.2.2.2.1, cell_of_row W (w.heap.size + 1) 9 _ _ (0, 0) h.2.2.2.1⟩
theorem FDst.rd (h : FDst nm M A2 c0 A3 c3 r w g W) : Rd W W.heap.size 10 (.slice A3 M.length c3) M.length (rcells M) := h.2.1
theorem FDst.rdf (h : FDst nm M A2 c0 A3 c3 r w g W) : Rd W W.heap.size 10 (.slice A2 M.length c0) M.length (rcells M) := h.2.2.2.2.1.mono h.2.2.2.2.2.size
theorem FDst.bel (h : FDst nm M A2 c0 A3 c3 r w g W) : Below w.heap.size w W := h.2.2.2.2.2
theorem FDst.lt (h : FDst nm M A2 c0 A3 c3 r w g W) : g < W.heap.size ∧ w.heap.size < W.heap.size ∧ w.heap.size + 1 < W.heap.size := ⟨lt_of_block h.1, lt_of_block h.2.2.1, lt_of_block h.2.2.2.1⟩
end

end Go.Proofs.YtbahehmfhjkgeaaGreat

/-
  The cells of rules and of headers (written by wip/gen/genelem.py).
-/
namespace Go.Proofs.YtbahehmfhjkgeaaGreat
open Go Go.RowKit Go.ChangeShapes Go.WideShapes Go.Deep

set_option maxHeartbeats 1000000 in
theorem elem_rule {H : Type} {enc : TypeId × Value → H} {w : World} {base : Nat} {spare : Nat → Bool} {held : Bool} (n : Nat) (cs : List Value) (x : DataW H × List MemPlace) (h : DataW.trod enc Tryz.prog w base spare held n 43 cs = some x) : ∃ r : RuleV, cs = r.enc := by
  obtain ⟨l0, m0, s0⟩ := sub_at Tryz.underlying43 h
  rw [show Tryz.prog.cellsOf 43 = 10 from by kernel_rfl] at l0
  obtain ⟨c0, c1, c2, c3, c4, c5, c6, c7, c8, c9, rfl⟩ : ∃ c0 c1 c2 c3 c4 c5 c6 c7 c8 c9, cs = [c0, c1, c2, c3, c4, c5, c6, c7, c8, c9] := by
    match cs, l0 with
    | [c0, c1, c2, c3, c4, c5, c6, c7, c8, c9], _ => exact ⟨c0, c1, c2, c3, c4, c5, c6, c7, c8, c9, rfl⟩
  obtain ⟨_, g1⟩ := s0 0 _ 0 4 1 rfl rfl rfl (by kernel_rfl)
  replace g1 : DataW.trod enc Tryz.prog w base spare held m0 4 [c0] = some _ := g1
  obtain ⟨v0, e0, _⟩ := DataW.trod_bool Tryz.underlying4 g1
  obtain rfl := (List.cons.inj e0).1
  obtain ⟨_, g2⟩ := s0 1 _ 1 3 1 rfl rfl rfl (by kernel_rfl)
  replace g2 : DataW.trod enc Tryz.prog w base spare held m0 3 [c1] = some _ := g2
  obtain ⟨v1, e1, _, w1⟩ := DataW.trod_int Tryz.underlying3 g2
  have b1 := bounds_i64 w1
  obtain rfl := (List.cons.inj e1).1
  obtain ⟨_, g3⟩ := s0 2 _ 2 39 2 rfl rfl rfl (by kernel_rfl)
  replace g3 : DataW.trod enc Tryz.prog w base spare held m0 39 [c2, c3] = some _ := g3
  obtain ⟨l4, m4, s4⟩ := sub_at Tryz.underlying39 g3
  obtain ⟨_, g5⟩ := s4 0 _ 0 37 1 rfl rfl rfl (by kernel_rfl)
  replace g5 : DataW.trod enc Tryz.prog w base spare held m4 37 [c2] = some _ := g5
  obtain ⟨v2, e2, _, w2⟩ := DataW.trod_int Tryz.underlying37 g5
  have b2 := bounds_u32 w2
  obtain rfl := (List.cons.inj e2).1
  obtain ⟨_, g6⟩ := s4 1 _ 1 3 1 rfl rfl rfl (by kernel_rfl)
  replace g6 : DataW.trod enc Tryz.prog w base spare held m4 3 [c3] = some _ := g6
  obtain ⟨v3, e3, _, w3⟩ := DataW.trod_int Tryz.underlying3 g6
  have b3 := bounds_i64 w3
  obtain rfl := (List.cons.inj e3).1
  obtain ⟨_, g7⟩ := s0 3 _ 4 39 2 rfl rfl rfl (by kernel_rfl)
  replace g7 : DataW.trod enc Tryz.prog w base spare held m0 39 [c4, c5] = some _ := g7
  obtain ⟨l8, m8, s8⟩ := sub_at Tryz.underlying39 g7
  obtain ⟨_, g9⟩ := s8 0 _ 0 37 1 rfl rfl rfl (by kernel_rfl)
  replace g9 : DataW.trod enc Tryz.prog w base spare held m8 37 [c4] = some _ := g9
  obtain ⟨v4, e4, _, w4⟩ := DataW.trod_int Tryz.underlying37 g9
  have b4 := bounds_u32 w4
  obtain rfl := (List.cons.inj e4).1
  obtain ⟨_, g10⟩ := s8 1 _ 1 3 1 rfl rfl rfl (by kernel_rfl)
  replace g10 : DataW.trod enc Tryz.prog w base spare held m8 3 [c5] = some _ := g10
  obtain ⟨v5, e5, _, w5⟩ := DataW.trod_int Tryz.underlying3 g10
  have b5 := bounds_i64 w5
  obtain rfl := (List.cons.inj e5).1
  obtain ⟨_, g11⟩ := s0 4 _ 6 41 2 rfl rfl rfl (by kernel_rfl)
  replace g11 : DataW.trod enc Tryz.prog w base spare held m0 41 [c6, c7] = some _ := g11
  obtain ⟨l12, m12, s12⟩ := sub_at Tryz.underlying41 g11
  obtain ⟨_, g13⟩ := s12 0 _ 0 36 1 rfl rfl rfl (by kernel_rfl)
  replace g13 : DataW.trod enc Tryz.prog w base spare held m12 36 [c6] = some _ := g13
  obtain ⟨v6, e6, _, w6⟩ := DataW.trod_int Tryz.underlying36 g13
  have b6 := bounds_u32 w6
  obtain rfl := (List.cons.inj e6).1
  obtain ⟨_, g14⟩ := s12 1 _ 1 36 1 rfl rfl rfl (by kernel_rfl)
  replace g14 : DataW.trod enc Tryz.prog w base spare held m12 36 [c7] = some _ := g14
  obtain ⟨v7, e7, _, w7⟩ := DataW.trod_int Tryz.underlying36 g14
  have b7 := bounds_u32 w7
  obtain rfl := (List.cons.inj e7).1
  obtain ⟨_, g15⟩ := s0 5 _ 8 41 2 rfl rfl rfl (by kernel_rfl)
  replace g15 : DataW.trod enc Tryz.prog w base spare held m0 41 [c8, c9] = some _ := g15
  obtain ⟨l16, m16, s16⟩ := sub_at Tryz.underlying41 g15
  obtain ⟨_, g17⟩ := s16 0 _ 0 36 1 rfl rfl rfl (by kernel_rfl)
  replace g17 : DataW.trod enc Tryz.prog w base spare held m16 36 [c8] = some _ := g17
  obtain ⟨v8, e8, _, w8⟩ := DataW.trod_int Tryz.underlying36 g17
  have b8 := bounds_u32 w8
  obtain rfl := (List.cons.inj e8).1
  obtain ⟨_, g18⟩ := s16 1 _ 1 36 1 rfl rfl rfl (by kernel_rfl)
  replace g18 : DataW.trod enc Tryz.prog w base spare held m16 36 [c9] = some _ := g18
  obtain ⟨v9, e9, _, w9⟩ := DataW.trod_int Tryz.underlying36 g18
  have b9 := bounds_u32 w9
  obtain rfl := (List.cons.inj e9).1
  exact ⟨⟨v0, v1, v2, v3, v4, v5, v6, v7, v8, v9, by omega, ⟨by omega, by omega⟩, ⟨by omega, by omega⟩, ⟨by omega, by omega⟩, ⟨by omega, by omega⟩, ⟨by omega, by omega⟩, ⟨by omega, by omega⟩⟩, rfl⟩

theorem elem_filter {H : Type} {enc : TypeId × Value → H} {w : World} {base : Nat} {spare : Nat → Bool} {held : Bool} (n : Nat) (cs : List Value) (x : DataW H × List MemPlace) (h : DataW.trod enc Tryz.prog w base spare held n 24 cs = some x) :
    ∃ (nm : ByteArray) (v : Value) (L : List RuleV), cs = [.string nm, v] ∧ Rd w w.heap.size 10 v L.length (rcells L) ∧ L.length ≤ maxLen := by
  obtain ⟨l0, m0, s0⟩ := sub_at Tryz.underlying24 h
  rw [show Tryz.prog.cellsOf 24 = 2 from by kernel_rfl] at l0
  obtain ⟨c0, c1, rfl⟩ : ∃ c0 c1, cs = [c0, c1] := by
    match cs, l0 with
    | [c0, c1], _ => exact ⟨c0, c1, rfl⟩
  obtain ⟨_, g1⟩ := s0 0 _ 0 9 1 rfl rfl rfl (by kernel_rfl)
  replace g1 : DataW.trod enc Tryz.prog w base spare held m0 9 [c0] = some _ := g1
  obtain ⟨nm, e0, _⟩ := DataW.trod_string Tryz.underlying9 g1
  obtain rfl := (List.cons.inj e0).1
  obtain ⟨_, g2⟩ := s0 1 _ 1 22 1 rfl rfl rfl (by kernel_rfl)
  replace g2 : DataW.trod enc Tryz.prog w base spare held m0 22 [c1] = some _ := g2
  obtain ⟨v, L, hv, hr, hl⟩ := open_rd rule_len (by decide) Tryz.underlying22 (by kernel_rfl) elem_rule g2
  obtain rfl := (List.cons.inj hv).1
  exact ⟨nm, c1, L, rfl, hr, hl⟩

end Go.Proofs.YtbahehmfhjkgeaaGreat
