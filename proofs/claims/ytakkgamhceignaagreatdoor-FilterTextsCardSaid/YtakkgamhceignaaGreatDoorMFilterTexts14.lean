/-
  Joined texts: LawFtTexts, OpenS, OpenS2, Elem1, ElemFs.
-/
import Derived.Test.YtakkgamhceignaaGreatDoorMFilterTexts10
import Derived.Test.YtakkgamhceignaaGreatDoorMFilterTexts12
import Derived.Test.YtakkgamhceignaaGreatDoorMFilterTexts13
import Derived.Deep.DeepCutAuto
import Derived.Test.YtakkgamhceignaaGreatDoorMFilterTexts5
import Derived.Deep.Slices
import Derived.ChangeSame
import Derived.Lib.LaidU8
import Derived.OpenShut
import Derived.WideShapes
import Derived.ChangeMaps5
import Derived.SizedLaws
import Derived.Deep.Fields
/-
  The walk of the law FilterTexts (written by wip/gen/genfttexts.py).
-/
namespace Go.Proofs.YtakkgamhceignaaGreatDoor
open Go Go.RowKit Go.Lib Go.Sort

theorem fnd_some {Fs : List FiltV} {nm : ByteArray} {f : FiltV} (h : fnd Fs nm = some f) : fndNm Fs nm = f.nm ∧ fndL Fs nm = f.L ∧ fndB Fs nm = true := by
  unfold fndNm fndL fndB
  rw [h]
  exact ⟨rfl, rfl, rfl⟩
theorem fnd_none {Fs : List FiltV} {nm : ByteArray} (h : fnd Fs nm = none) : fndNm Fs nm = ByteArray.empty ∧ fndL Fs nm = [] ∧ fndB Fs nm = false := by
  unfold fndNm fndL fndB
  rw [h]
  exact ⟨rfl, rfl, rfl⟩
/-- What the law's own memory holds behind the call that names a filter. -/
def FTst (nm : ByteArray) (L : List RuleV) (g : Nat) (v' : Value) (v : Value) (Fs : List FiltV) (w : World) (W : World) : Prop :=
  W.heap[g]? = some (.cells #[.string nm, v'] 39 (0, 0)) ∧ W.ownsRow w.heap.size 29 10 v' L.length (rcells L) ∧ (∀ k, v'.ownBlock = some k → k < g) ∧ FsAt W w.heap.size v Fs ∧ Below w.heap.size w W ∧ w.heap.size ≤ g
section
variable {nm : ByteArray} {L : List RuleV} {g : Nat} {v' v : Value} {Fs : List FiltV} {w W W' : World}
theorem FTst.next (s : FTst nm L g v' v Fs w W) (hb : Below W.heap.size W W') : FTst nm L g v' v Fs w W' := by
  obtain ⟨h1, h2, h3, h4, h5, h6⟩ := s
  exact ⟨blk_below hb h1, owns_kept_none h2 (only_of_below hb none), h3, h4.below (hb.mono h5.size), h5.trans (hb.mono h5.size), h6⟩
theorem FTst.rd (s : FTst nm L g v' v Fs w W) : Rd W W.heap.size 10 v' L.length (rcells L) := Rd.of_own s.2.1
theorem FTst.fs (s : FTst nm L g v' v Fs w W) : FsAt W W.heap.size v Fs := s.2.2.2.1.mono s.2.2.2.2.1.size
theorem FTst.bel (s : FTst nm L g v' v Fs w W) : Below w.heap.size w W := s.2.2.2.2.1
theorem FTst.got (s : FTst nm L g v' v Fs w W) : W.cell? ⟨g, 0, none⟩ = some (.string nm) ∧ W.cell? ⟨g, 1, none⟩ = some v' := ⟨(two_cells s.1).1, (two_cells s.1).2.1⟩
end
set_option maxRecDepth 100000 in
set_option maxHeartbeats 8000000 in
theorem lawFtTexts_any (r : RuleV) (s : ByteArray) (Fs : List FiltV) (v : Value) (nm : ByteArray) (w : World) (hE : Env w) (hF : FsAt w w.heap.size v Fs) (hlen : Fs.length ≤ 9223372036854775807) (hbig : ∀ f ∈ Fs, f.L.length * 64 + 64 ≤ 140737488355328) :
    Calls Tryz.prog 3 #[.agg #[.bool r.permit, .int .i64 r.proto, .int .u32 r.sa, .int .i64 r.sn, .int .u32 r.da, .int .i64 r.dn, .int .u32 r.sl, .int .u32 r.sh, .int .u32 r.dl, .int .u32 r.dh], .string s, v, .string nm] w fun e w' => e = .returned (.bool true) ∧ Below w.heap.size w w' := by
  obtain ⟨i0, hi, hz0, hz1, hz2⟩ := info_parts Tryz.infoRule
  have haw := Lib.hid lawAwake10_any
  obtain ⟨Af, cf, rfl, hcf⟩ := hF.1.form
  have HF := Lib.hid hF
  have HBig := Lib.hid hbig
  clear hF hbig
  by_cases hs : 2000 < s.size
  · have hI : (s.size : Int) > 2000 := by omega
    go_enter Tryz.func3, Tryz.ntmps3
    go_wp2_with fail
    refine (haw.out _).mono ?_
    rintro e w1 ⟨rfl, hb⟩
    have hbw := below_call (below1 w (ruleObj r)) hb
    go_wp2
    go_ret
    exact ⟨rfl, hbw⟩
  have hI : ¬ (s.size : Int) > 2000 := by omega
  go_enter Tryz.func3, Tryz.ntmps3
  go_upto_region 3 with fail
  have hk0 := heap_alloc_new w (ruleObj r)
  have hb0 := below1 w (ruleObj r)
  have hW : w.alloc (.cells #[.bool r.permit, .int .i64 r.proto, .int .u32 r.sa, .int .i64 r.sn, .int .u32 r.da, .int .i64 r.dn, .int .u32 r.sl, .int .u32 r.sh, .int .u32 r.dl, .int .u32 r.dh] 29) = w.alloc (ruleObj r) := rfl
  try rw [hW]
  obtain ⟨c0, c1, c2, c3, c4, c5, c6, c7, c8, c9⟩ := rule_blk (r := r) hk0
  generalize w.alloc (ruleObj r) = w0 at *
  clear hW
  go_wp2_with fail
  refine (ftText_any r w0 (hE.below hb0)).mono ?_
  rintro e w1 ⟨rfl, hb⟩
  have hk1 := blk_below hb hk0
  have hb1 := below_call hb0 hb
  clear hb hb0 hk0 c0 c1 c2 c3 c4 c5 c6 c7 c8 c9
  obtain ⟨c0, c1, c2, c3, c4, c5, c6, c7, c8, c9⟩ := rule_blk (r := r) hk1
  go_wp2_with fail
  refine (refFtText_any r w1).mono ?_
  rintro e w2 ⟨rfl, hb⟩
  have hb2 := below_call hb1 hb
  clear hb hb1 hk1 c0 c1 c2 c3 c4 c5 c6 c7 c8 c9
  have hS := fun W (hW : Env W) => ftParse_any s W hW (by omega)
  have hD := fun W => refFtParse_any s W (by omega)
  generalize (⟨r.told.toArray⟩ : ByteArray) = tt at *
  generalize r.toldE = te at *
  generalize frE s.data.toList = fe at *
  generalize frV s.data.toList = q at *
  have HS := Lib.hid (show ∀ W, Env W → Calls Tryz.prog 9 #[.string s] W fun e W' => e = .returned (.tuple #[.agg #[.bool q.permit, .int .i64 q.proto, .int .u32 q.sa, .int .i64 q.sn, .int .u32 q.da, .int .i64 q.dn, .int .u32 q.sl, .int .u32 q.sh, .int .u32 q.dl, .int .u32 q.dh], .int .i64 fe]) ∧ Below W.heap.size W W' from hS)
  have HD := Lib.hid (show ∀ W, Calls Tryz.prog 10 #[.string s] W fun e W' => e = .returned (.tuple #[.agg #[.bool q.permit, .int .i64 q.proto, .int .u32 q.sa, .int .i64 q.sn, .int .u32 q.da, .int .i64 q.dn, .int .u32 q.sl, .int .u32 q.sh, .int .u32 q.dl, .int .u32 q.dh], .int .i64 fe]) ∧ Below W.heap.size W W' from hD)
  clear hS hD
  go_wp2_with fail
  refine (HS.out _ (hE.below hb2)).mono ?_
  rintro e w3 ⟨rfl, hb⟩
  have hb3 := below_call hb2 hb
  clear hb hb2
  have kx0 := heap_alloc_new w3 (ruleObj q)
  have hbx0 := hb3.alloc hb3.size (ruleObj q)
  have hW : w3.alloc (.cells #[.bool q.permit, .int .i64 q.proto, .int .u32 q.sa, .int .i64 q.sn, .int .u32 q.da, .int .i64 q.dn, .int .u32 q.sl, .int .u32 q.sh, .int .u32 q.dl, .int .u32 q.dh] 29) = w3.alloc (ruleObj q) := rfl
  go_upto_region 6 with fail
  try rw [hW]
  have hsx : w3.heap.size < (w3.alloc (ruleObj q)).heap.size := by simp
  generalize w3.alloc (ruleObj q) = w4 at *
  clear hW
  generalize w3.heap.size = gx at *
  clear hb3
  go_wp2_with fail
  refine (HD.out w4).mono ?_
  rintro e w5 ⟨rfl, hb⟩
  have hb5 := below_call hbx0 hb
  have kx5 := blk_below hb kx0
  have hg5 := lt_of_block kx5
  clear hb hbx0 kx0 hsx
  have ky := heap_alloc_new w5 (ruleObj q)
  have kx6 := blk_below (below1 w5 (ruleObj q)) kx5
  have hb6 := hb5.alloc hb5.size (ruleObj q)
  have hW : w5.alloc (.cells #[.bool q.permit, .int .i64 q.proto, .int .u32 q.sa, .int .i64 q.sn, .int .u32 q.da, .int .i64 q.dn, .int .u32 q.sl, .int .u32 q.sh, .int .u32 q.dl, .int .u32 q.dh] 29) = w5.alloc (ruleObj q) := rfl
  go_upto_region 7 with fail
  try rw [hW]
  generalize w5.alloc (ruleObj q) = w6 at *
  generalize w5.heap.size = gy at *
  clear hW kx5 hb5
  obtain ⟨x0, x1, x2, x3, x4, x5, x6, x7, x8, x9⟩ := rule_blk (r := q) kx6
  obtain ⟨y0, y1, y2, y3, y4, y5, y6, y7, y8, y9⟩ := rule_blk (r := q) ky
  have hnn := fun W => neqRule q W
  have ht : (tt.toList != tt.toList) = false := by simp
  have hte : (te != te) = false := by simp
  have hfe : (fe != fe) = false := by simp
  go_upto_region 9 with fail
  clear x0 x1 x2 x3 x4 x5 x6 x7 x8 x9 y0 y1 y2 y3 y4 y5 y6 y7 y8 y9 hnn kx6 ky ht hte hfe HS HD
  have hf6 := HF.out.below hb6
  go_wp2_with fail
  obtain ⟨nB, hnB⟩ : ∃ x, fndB Fs nm = x := ⟨_, rfl⟩
  obtain ⟨nN, hnN⟩ : ∃ x, fndNm Fs nm = x := ⟨_, rfl⟩
  obtain ⟨nL, hnL⟩ : ∃ x, fndL Fs nm = x := ⟨_, rfl⟩
  have hNam := fnamedO_any Fs _ nm w6 (hf6.mono hb6.size) hlen
  rw [hnB, hnN, hnL] at hNam
  refine hNam.mono ?_
  rintro e w7 ⟨v', rfl, hown, hb⟩
  have hb7 := below_call hb6 hb
  have hown7 := hown.mono hb6.size
  have hlt7 : ∀ k, v'.ownBlock = some k → k < w7.heap.size := fun k hk => (hown.lt k hk).2
  clear hown hb hf6
  have kg := heap_alloc_new w7 (.cells #[.string nN, v'] 39)
  have hst : FTst nN nL w7.heap.size v' (.slice Af Fs.length cf) Fs w (w7.alloc (.cells #[.string nN, v'] 39)) :=
    ⟨kg, owns_kept_none hown7 (only_of_below (below1 w7 _) none), hlt7, HF.out.below (hb7.alloc hb7.size _), hb7.alloc hb7.size _, hb7.size⟩
  obtain ⟨A1, c1, rfl, hA1⟩ := owns_form hown7
  go_upto_region 10 with fail
  have HST := Lib.hid hst
  generalize w7.alloc (.cells #[.string nN, .slice A1 nL.length c1] 39) = w8 at *
  generalize w7.heap.size = g at *
  clear hst kg hlt7 hown7 hb7 hb6
  go_wp2
  go_loop [19] (fun i => ∃ k : Nat, i = .int .i64 k ∧ k ≤ Fs.length ∧ Hid (∀ (j : Nat) (f : FiltV), j < k → Fs[j]? = some f → hasNm nm f = false)) (fun i => Fs.length - (intOf i).toNat)
  case atStart => exact ⟨0, rfl, by omega, fun j f hj => absurd hj (by omega)⟩
  case round =>
    obtain ⟨k, rfl, hk, hno⟩ := hrel
    by_cases hlt : k < Fs.length
    · have hI : (k : Int) < (Fs.length : Int) := by omega
      obtain ⟨f, hf⟩ : ∃ f, Fs[k]? = some f := ⟨_, List.getElem?_eq_getElem hlt⟩
      obtain ⟨b, off, c', hv, _, hbB, hcell⟩ := HF.out.1.posAt (by omega)
      injection hv with hv1 _ hv3
      subst hv1 hv3
      have f0 : w8.cell? ⟨b, off + k * 2, none⟩ = some (.string f.nm) := (HST.out.bel.cell (p := ⟨b, off + k * 2, none⟩) hbB).trans (hcell k 0 _ (fcell hf rfl))
      have hcv : ∀ W, Below w.heap.size w W → W.cell? ⟨b, off + k * 2 + 1, none⟩ = some f.v := fun W hW => (hW.cell (p := ⟨b, off + k * 2 + 1, none⟩) hbB).trans (hcell k 1 _ (fcell hf rfl))
      have HCV := Lib.hid hcv
      clear hcell hcv
      by_cases hm : f.nm.toList = nm.toList
      · have hm1 : (f.nm.toList != nm.toList) = false := by simp [hm]
        have hm3 : (f.nm.toList == nm.toList) = true := by simp [hm]
        have hnf := fnd_some (fnd_hit (idxP_hit (hasNm nm) Fs k f hf hm3 hno.out) hf)
        obtain rfl : nB = true := hnB.symm.trans hnf.2.2
        obtain rfl : nN = f.nm := hnN.symm.trans hnf.1
        obtain rfl : nL = f.L := hnL.symm.trans hnf.2.1
        clear hnf hno
        have hrd := (HF.out.2 f (List.mem_of_getElem? hf)).1
        have hb64 := HBig.out f (List.mem_of_getElem? hf)
        obtain ⟨Ar, cr, hfv, hcr⟩ := hrd.form
        rw [hfv] at HCV hrd
        have f1 := HCV.out w8 HST.out.bel
        have hreg : ∀ nq osq, Below w.heap.size w (grow (redrawn w8 nq) osq) := fun nq osq => HST.out.bel.trans ((below_regrown w8 nq osq).mono HST.out.bel.size)
        obtain ⟨g0, g1⟩ := HST.out.got
        have F0 := cell_regrown f0
        have F1 := cell_regrown f1
        have G0 := cell_regrown g0
        have G1 := cell_regrown g1
        have HRd := Lib.hid hrd
        clear hrd
        go_upto_region 14 with fail
        refine wp_region_quiet_below (by kernel_rfl) (by kernel_rfl) ?_
        repeat (first | go_big_quiet_step ((first | (go_at_call 12; with_reducible exact Calls.regrown_of (rulesSame_any f.L _ _ _ ((HST.out.next (below_regrown w8 _ _)).rd) ((HRd.out.below (hreg _ _)).mono (hreg _ _).size) (by omega))))) | quiet_step ((first | (go_at_call 12; with_reducible exact Calls.regrown_of (rulesSame_any f.L _ _ _ ((HST.out.next (below_regrown w8 _ _)).rd) ((HRd.out.below (hreg _ _)).mono (hreg _ _).size) (by omega))))))
        refine wpQuiet_nil ?_
        intro _ hw'
        obtain ⟨⟨nq, osq⟩, hw''⟩ := hw'
        subst hw''
        have hq := below_regrown w8 nq osq
        clear F0 F1 G0 G1 f0 f1 g0 g1
        have st9 := HST.out.next hq
        have HST9 := Lib.hid st9
        clear st9 HST hreg
        generalize grow (redrawn w8 nq) osq = w9 at *
        clear hq
        generalize hfL : f.L = fL at *
        go_upto_region 16 with fail
        go_cut [20] (fun s20 wx => ∃ (A2 : Option Addr) (c2 : Nat), s20 = .slice A2 fL.length c2 ∧ wx.ownsRow w9.heap.size 29 10 (.slice A2 fL.length c2) fL.length (rcells fL) ∧ Hid (Below w9.heap.size w9 wx))
        case first =>
          have f1 : (w9.alloc (.cells #[] 29)).cell? ⟨b, off + k * 2 + 1, none⟩ = some (.slice Ar fL.length cr) := HCV.out _ (HST9.out.bel.alloc HST9.out.bel.size _)
          have f1b : w9.cell? ⟨b, off + k * 2 + 1, none⟩ = some (.slice Ar fL.length cr) := HCV.out _ HST9.out.bel
          have hmade : (w9.alloc (.cells #[] 29)).ownsRow w9.heap.size 29 10 (.slice (some ⟨w9.heap.size, 0, none⟩) 0 0) 0 [] := World.ownsRow_made w9 #[] 0 (Nat.le_refl _) (Nat.zero_le _) (by simp)
          by_cases hn : fL.length = 0
          · have HM := Lib.hid (show (w9.alloc (.cells #[] 29)).ownsRow w9.heap.size 29 10 (.slice (some ⟨w9.heap.size, 0, none⟩) fL.length 0) fL.length (rcells fL) by rw [List.eq_nil_of_length_eq_zero hn]; exact hmade)
            have HB1 := Lib.hid (below1 w9 (.cells #[] 29))
            clear hmade
            obtain rfl : fL = [] := List.eq_nil_of_length_eq_zero hn
            rcases Ar with _ | ad
            all_goals (
              go_wp2
              go_meet
              exact ⟨_, _, rfl, HM.out, HB1⟩)
          · obtain ⟨b2, o2, c2', hv, _, hbB2, hcell2⟩ := (HRd.out.below (HST9.out.bel.alloc HST9.out.bel.size (.cells #[] 29))).pos (by omega)
            injection hv with hv1 _ hv3
            subst hv1 hv3
            have HC2 := Lib.hid hcell2
            clear hcell2
            go_wp2_with (at_builtin; refine wpList_append_own _ rfl _ _ 37 rfl w9.heap.size 29 i0 _ 10 64 Tryz.underlying37 hi hz0 hz1 hz2 rfl (by decide) _ _ _ rfl hmade ⟨b2, o2, none⟩ fL.length cr (rcells fL) rfl ?c1 ?c2 ?c3 ?c4 ?c5 ?c6 ?_)
            case c1 => exact flat_len RuleV.enc 10 rule_len fL
            case c2 => exact HC2.out
            case c3 => exact rcells_one fL
            case c4 => unfold maxLen; omega
            case c5 => omega
            intro v2 wx hown0 hg hnil
            have hown : wx.ownsRow w9.heap.size 29 10 v2 fL.length (rcells fL) := by simpa using hown0
            obtain ⟨A2, c2, rfl, _⟩ := owns_form hown
            have hbx : Below w9.heap.size w9 wx := (below1 w9 _).grown hg (by simp) (fun k hk => by simp [Value.ownBlock] at hk; omega)
            have HM := Lib.hid hown
            have HB1 := Lib.hid hbx
            clear hown0 hg hnil hown hbx hmade
            go_wp2
            go_meet
            exact ⟨_, _, by simp, HM.out, HB1⟩
        case rest =>
          obtain ⟨A2, c2, hs20, hold, hb10⟩ := hcut
          subst hs20
          have hg9 : g < w9.heap.size := lt_of_block HST9.out.1
          have hown1 : Hid (∀ k, (Value.slice A1 fL.length c1).ownBlock = some k → w.heap.size ≤ k ∧ k < g) := fun k hk => ⟨(HST9.out.2.1.lt k hk).1, HST9.out.2.2.1 k hk⟩
          have st10 := HST9.out.next hb10.out
          have hwg : w.heap.size ≤ g := HST9.out.2.2.2.2.2
          go_wp2
          go_loopw [21] (fun i wr => ∃ (k2 : Nat) (xs : List Value), i = .int .i64 k2 ∧ k2 ≤ fL.length ∧ Hid (wr.heap[g]? = some (.cells #[.string f.nm, .slice A1 fL.length c1] 39 (0, 0)) ∧ wr.ownsRow w.heap.size 29 10 (.slice A1 fL.length c1) fL.length xs ∧ wr.ownsRow w9.heap.size 29 10 (.slice A2 fL.length c2) fL.length (rcells fL) ∧ Below w.heap.size w wr ∧ xs.length = fL.length * 10)) (fun i _ => fL.length - (intOf i).toNat)
          case atStart => exact ⟨0, rcells fL, rfl, by omega, st10.1, st10.2.1, hold, st10.bel, flat_len RuleV.enc 10 rule_len fL⟩
          case round =>
            clear st10 hold hb10
            obtain ⟨k2, xs, rfl, hk2, hst2⟩ := hrel
            obtain ⟨hG, hO, hOld, hBel, hxl⟩ := hst2.out
            obtain ⟨gc0, gc1, _, _⟩ := two_cells hG
            have HG := Lib.hid hG
            have HO := Lib.hid hO
            have HOld := Lib.hid hOld
            have HB := Lib.hid hBel
            clear hG hO hOld hBel hst2
            by_cases hlt2 : k2 < fL.length
            · have hI2 : (k2 : Int) < (fL.length : Int) := by omega
              obtain ⟨ga, rfl⟩ := hA1 (by omega)
              obtain ⟨u, hu⟩ : ∃ u, xs[k2 * 10 + 1]? = some u := ⟨_, List.getElem?_eq_getElem (by omega)⟩
              have e1 : wr.cell? ⟨ga, k2 * 10 + 1, none⟩ = some u := (HO.out.cellAt (k2 * 10 + 1) (by omega)).trans hu
              have z1 := HO.out.frozenAt (k2 * 10 + 1)
              have hga := hown1.out ga (by simp [Value.ownBlock])
              have hN := Lib.hid (show (wr.setCell ⟨ga, k2 * 10 + 1, none⟩ (.int .i64 77)).heap[g]? = some (.cells #[.string f.nm, .slice (some ⟨ga, 0, none⟩) fL.length c1] 39 (0, 0)) ∧ (wr.setCell ⟨ga, k2 * 10 + 1, none⟩ (.int .i64 77)).ownsRow w.heap.size 29 10 (.slice (some ⟨ga, 0, none⟩) fL.length c1) fL.length (xs.set (k2 * 10 + 1) (.int .i64 77)) ∧ (wr.setCell ⟨ga, k2 * 10 + 1, none⟩ (.int .i64 77)).ownsRow w9.heap.size 29 10 (.slice A2 fL.length c2) fL.length (rcells fL) ∧ Below w.heap.size w (wr.setCell ⟨ga, k2 * 10 + 1, none⟩ (.int .i64 77)) ∧ (xs.set (k2 * 10 + 1) (.int .i64 77)).length = fL.length * 10 from
                ⟨set_far HG.out (by show g ≠ ga; omega), (HO.out.stored _ _).1, owns_kept_lt HOld.out (only_setCell (World.grownBy.refl wr (some ga)) (.inl rfl) _) (by omega), HB.out.setCell (p := ⟨ga, k2 * 10 + 1, none⟩) hga.1 _, by simp; exact hxl⟩)
              go_wp2
              exact ⟨⟨k2 + 1, _, by go_num, by omega, hN⟩, by simp only [intOf]; omega⟩
            · have hI2 : ¬ (k2 : Int) < (fL.length : Int) := by omega
              have hsz := HB.out.size
              have hgr := lt_of_block HG.out
              go_wp2_with (at_builtin; refine wpList_append_own _ rfl _ _ 37 rfl w.heap.size 29 i0 _ 10 64 Tryz.underlying37 hi hz0 hz1 hz2 rfl (by decide) _ _ _ rfl (HO.out.alloc _) ⟨wr.heap.size, 0, none⟩ 1 1 (rcells [zeroRule]) rfl ?d1 ?d2 ?d3 ?d4 ?d5 ?d6 ?_)
              case d1 => rfl
              case d2 => exact fun j u h => h
              case d3 => exact rcells_one [zeroRule]
              case d4 => unfold maxLen; omega
              case d5 => omega
              case d6 => omega
              intro v3 wx hown3 hg3 hnil3
              have hGx : wx.heap[g]? = some (.cells #[.string f.nm, .slice A1 fL.length c1] 39 (0, 0)) := (hg3.block g (by simp; omega) (fun h => by have := (hown1.out g h.symm).2; omega)).trans (blk_below (below1 wr _) HG.out)
              have hBx : Below w.heap.size w wx := (HB.out.alloc HB.out.size _).grown hg3 (by simp; omega) (fun k hk => (hown1.out k hk).1)
              have hOldx : wx.ownsRow w9.heap.size 29 10 (.slice A2 fL.length c2) fL.length (rcells fL) := by
                cases hob : (Value.slice A1 fL.length c1).ownBlock with
                | none => rw [hob] at hg3; exact owns_kept_none (HOld.out.alloc _) hg3
                | some kb => rw [hob] at hg3; exact owns_kept_lt (HOld.out.alloc _) hg3 (by have := (hown1.out kb hob).2; omega)
              obtain ⟨A3, c3, rfl, _⟩ := owns_form hown3
              obtain ⟨gx0, gx1, gx2, gx3⟩ := two_cells hGx
              have hGy := set_1 (u := .slice A3 (fL.length + 1) c3) hGx
              have hBy := hBx.setCell (p := ⟨g, 1, none⟩) hwg (.slice A3 (fL.length + 1) c3)
              have hOy := owns_kept_lt hOldx (only_setCell (p := ⟨g, 1, none⟩) (World.grownBy.refl wx (some g)) (.inl rfl) (.slice A3 (fL.length + 1) c3)) hg9
              have f1 := HCV.out _ hBy
              have HGy := Lib.hid hGy
              have HBy := Lib.hid hBy
              have HOy := Lib.hid hOy
              clear hGy hBy hOy hGx hBx hOldx hown3 hg3 hnil3 HG HO HOld HB
              go_upto_region 22 with fail
              clear gx0 gx1 gx2 gx3 gc0 gc1
              generalize wx.setCell ⟨g, 1, none⟩ (.slice A3 (fL.length + 1) c3) = wy at *
              go_wp2_with fail
              refine (rulesSame_any fL _ _ _ ((HRd.out.below HBy.out).mono HBy.out.size) (Rd.of_own HOy.out) (by omega)).mono ?_
              rintro e wz ⟨rfl, hb⟩
              have hBz := below_call HBy.out hb
              obtain ⟨gz0, gz1, _, _⟩ := two_cells (blk_below hb HGy.out)
              have hle : ((fL.length : Int) + 1 == (fL.length : Int) + 1) = true := by simp
              go_wp2_with fail
              refine (haw.out _).mono ?_
              rintro e wq ⟨rfl, hb2⟩
              have hbq := below_call hBz hb2
              go_wp2
              go_ret
              exact ⟨rfl, hbq⟩
      · have hm1 : (f.nm.toList != nm.toList) = true := by simp [hm]
        have hm3 : (f.nm.toList == nm.toList) = false := by simp [hm]
        have hm2 : hasNm nm f = false := by simp [hasNm, hm]
        go_wp2
        refine ⟨⟨k + 1, by go_num, by omega, fun j f' hj hf' => ?_⟩, by simp only [intOf]; omega⟩
        by_cases hjk : j = k
        · subst hjk
          rw [hf] at hf'
          injection hf' with hf'
          rw [← hf']; exact hm2
        · exact hno.out j f' (by omega) hf'
    · have hI : ¬ (k : Int) < (Fs.length : Int) := by omega
      have hnf := fnd_none (fnd_miss (idxP_miss (hasNm nm) Fs (fun j f hj => hno.out j f (by have := (List.getElem?_eq_some_iff.1 hj).1; omega) hj)))
      obtain rfl : nB = false := hnB.symm.trans hnf.2.2
      obtain rfl : nN = ByteArray.empty := hnN.symm.trans hnf.1
      obtain rfl : nL = [] := hnL.symm.trans hnf.2.1
      clear hnf
      obtain ⟨g0, g1⟩ := HST.out.got
      go_wp2_with fail
      refine (haw.out _).mono ?_
      rintro e wb ⟨rfl, hb⟩
      have hbw := below_call HST.out.bel hb
      go_wp2
      go_ret
      exact ⟨rfl, hbw⟩
end Go.Proofs.YtakkgamhceignaaGreatDoor

/-
  Arguments opened to cells: structs of any depth, slices of structs of any length; no program in sight.
-/
namespace Go.Proofs.YtakkgamhceignaaGreatDoor
open Go Go.RowKit Go.ChangeShapes Go.WideShapes Go.Deep

theorem list_told {α : Type} {Q : Nat → α → Prop} : ∀ n, (∀ i, i < n → ∃ r, Q i r) → ∃ L : List α, L.length = n ∧ ∀ i x, L[i]? = some x → Q i x
  | 0, _ => ⟨[], rfl, fun i x h => by simp at h⟩
  | n + 1, h => by
    obtain ⟨L, hl, hq⟩ := list_told n (fun i hi => h i (by omega))
    obtain ⟨r, hr⟩ := h n (by omega)
    refine ⟨L ++ [r], by simp [hl], fun i x hx => ?_⟩
    by_cases hi : i < L.length
    · rw [List.getElem?_append_left hi] at hx; exact hq i x hx
    · rw [List.getElem?_append_right (by omega)] at hx
      have : i - L.length = 0 := by
        have := (List.getElem?_eq_some_iff.1 hx).1
        simp at this; omega
      rw [this] at hx
      simp at hx
      subst hx
      have : i = n := by omega
      rw [this]; exact hr
theorem flat_inv {α : Type} (enc : α → List Value) (k : Nat) (hk : ∀ x, (enc x).length = k) (L : List α) (j : Nat) (u : Value) (h : (L.flatMap enc)[j]? = some u) :
    ∃ (i jj : Nat) (x : α), j = i * k + jj ∧ jj < k ∧ L[i]? = some x ∧ (enc x)[jj]? = some u := by
  have hj := (List.getElem?_eq_some_iff.1 h).1
  rw [flat_len enc k hk] at hj
  have hk0 : 0 < k := by
    rcases Nat.eq_zero_or_pos k with h0 | h0
    · subst h0; simp at hj
    · exact h0
  have hd : j / k < L.length := Nat.div_lt_of_lt_mul (by rw [Nat.mul_comm]; exact hj)
  have hm := Nat.mod_lt j hk0
  have hdm : j = j / k * k + j % k := by rw [Nat.mul_comm]; exact (Nat.div_add_mod j k).symm
  have hx := List.getElem?_eq_getElem hd
  have hu : (enc L[j / k])[j % k]? = some ((enc L[j / k])[j % k]'(by rw [hk]; exact hm)) := List.getElem?_eq_getElem _
  have hg := flat_get enc k hk L _ _ _ _ hx hu
  rw [← hdm, h] at hg
  exact ⟨j / k, j % k, _, hdm, hm, hx, hu.trans hg.symm⟩

section
variable {H : Type} {enc : TypeId × Value → H} {P : Program} {w : World} {base : Nat} {spare : Nat → Bool} {held : Bool}
theorem sub_at {t : TypeId} {fs : Array Field} {n : Nat} {cs : List Value} {x : DataW H × List MemPlace} (ht : P.underlying t = some (.struct fs)) (h : DataW.trod enc P w base spare held n t cs = some x) :
    cs.length = P.cellsOf t ∧ ∃ m, ∀ (j : Nat) (f : Field) (off : Nat) (ty : TypeId) (k : Nat), fs[j]? = some f → f.offset = off → f.type = ty → P.cellsOf ty = k → ∃ y, DataW.trod enc P w base spare held m ty ((cs.drop off).take k) = some y := by
  obtain ⟨xs, m, _, _, hl, hlen, hf⟩ := DataW.trod_struct ht h
  refine ⟨hl, m, fun j f off ty k hj ho hty hk => ?_⟩
  have h1 := hf j f hj
  have hjl : j < xs.length := by rw [hlen]; exact (Array.getElem?_eq_some_iff.1 hj).1
  subst ho hty hk
  exact ⟨_, h1.trans (List.getElem?_eq_getElem hjl)⟩
/-- A struct as a parameter. -/
theorem open_agg {r : Reach} {b0 : Nat} {t : TypeId} {fs : Array Field} {v : Value} {d : DataW H} {p : List MemPlace} (hs : P.underlying t = some (.struct fs)) (hv : Value.okWide P w r b0 t v) (h : DataW.Trod enc P w base spare held t v d p) :
    ∃ (cs : List Value) (n : Nat), v = .agg cs.toArray ∧ DataW.trod enc P w base spare held n t cs = some (d, p) := by
  obtain ⟨cs, rfl, _⟩ := okWide_struct hs hv
  obtain ⟨n, hf⟩ := h
  exact ⟨cs.toList, n, by simp, hf⟩
/-- A slice as a parameter. -/
theorem open_sl {r : Reach} {b0 : Nat} {t e : TypeId} {v : Value} {d : DataW H} {p : List MemPlace} (hs : P.underlying t = some (.slice e)) (hv : Value.okWide P w r b0 t v) (h : DataW.Trod enc P w base spare held t v d p) :
    ∃ n, DataW.trod enc P w base spare held n t [v] = some (d, p) := by
  obtain ⟨a, len, cap, rfl⟩ := okWide_slice hs hv
  exact h
/-- A slice whose elements' cells are told by one list each. -/
theorem open_rd {α : Type} {encV : α → List Value} {k : Nat} (hk : ∀ x, (encV x).length = k) (hk0 : 0 < k) {t e : TypeId} {n : Nat} {cs : List Value} {x : DataW H × List MemPlace} (ht : P.underlying t = some (.slice e)) (hC : P.cellsOf e = k)
    (hel : ∀ n cs y, DataW.trod enc P w base spare held n e cs = some y → ∃ r, cs = encV r) (h : DataW.trod enc P w base spare held n t cs = some x) :
    ∃ (v : Value) (L : List α), cs = [v] ∧ Rd w w.heap.size k v L.length (L.flatMap encV) ∧ L.length ≤ maxLen := by
  rcases open_slice ht h with ⟨h0, _⟩ | ⟨a, len, cap, m, n', D, Pl, hcs, _, hl, hm, hmm, _, hi⟩
  · exact ⟨_, [], h0, ⟨none, 0, rfl, by simp, by simp, fun h => absurd h (by simp)⟩, by simp⟩
  · have hlm : len ≤ m := by rw [hmm]; split <;> omega
    obtain ⟨L, hL, hq⟩ := list_told (Q := fun i r => w.cells? base (a.add (i * k)) k = some (encV r)) len (fun i hi' => by
      obtain ⟨cs', hc, ht'⟩ := hi i (by omega)
      obtain ⟨r, hr⟩ := hel _ _ _ ht'
      rw [hC] at hc
      exact ⟨r, by rw [hc, hr]⟩)
    refine ⟨_, L, hcs, ⟨some a, cap, by rw [hL], by omega, flat_len encV k hk L, fun hpos => ?_⟩, by omega⟩
    obtain ⟨b, off, sp⟩ := a
    have hz : ∃ u, w.cell? ⟨b, off, sp⟩ = some u := by
      obtain ⟨r, hr⟩ : ∃ r, L[0]? = some r := ⟨_, List.getElem?_eq_getElem hpos⟩
      obtain ⟨_, _, hat⟩ := World.cells?_some (hq 0 r hr)
      have h1 := hat 0 hk0
      have h2 : (encV r)[0]? = some ((encV r)[0]'(by rw [hk]; exact hk0)) := List.getElem?_eq_getElem _
      rw [h2] at h1
      refine ⟨_, Eq.trans ?_ h1⟩
      simp [Addr.add]
    obtain ⟨u0, hu0⟩ := hz
    obtain rfl := Go.Proofs.cell_spot hu0
    refine ⟨b, off, rfl, ?_, fun j u hu => ?_⟩
    · rcases Nat.lt_or_ge b w.heap.size with h | h
      · exact h
      · have hn : w.heap[b]? = none := by simp [h]
        simp [World.cell?, hn] at hu0
    · obtain ⟨i, jj, r, hj, hjj, hr, hu'⟩ := flat_inv encV k hk L j u hu
      obtain ⟨_, _, hat⟩ := World.cells?_some (hq i r hr)
      have h1 := hat jj hjj
      rw [hu'] at h1
      have e : (Addr.add ⟨b, off, none⟩ (i * k)).add jj = ⟨b, off + j, none⟩ := by
        rw [hj]; simp only [Addr.add]
        split <;> split <;> simp_all <;> omega
      rw [← e]; exact h1
end

end Go.Proofs.YtakkgamhceignaaGreatDoor

/-
  Arguments opened to cells with their weights: no program in sight.
-/
namespace Go.Proofs.YtakkgamhceignaaGreatDoor
open Go Go.RowKit Go.ChangeShapes Go.WideShapes Go.Deep

section
variable {H : Type} {enc : TypeId × Value → H} {P : Program} {w : World} {base : Nat} {spare : Nat → Bool} {held : Bool}
/-- All of a datum's weights are within the reach. -/
def InReach (P : Program) (t : TypeId) (d : DataW H) : Prop := ∀ m ∈ d.weights P t, m ≤ reachBytes
theorem mem_weightsAll {e : TypeId} {d : DataW H} : ∀ {ds : List (DataW H)}, d ∈ ds → ∀ n ∈ d.weights P e, n ∈ DataW.weightsAll P e ds
  | [], h, _, _ => by simp at h
  | x :: ds, h, n, hn => by
    rw [DataW.weightsAll, List.mem_append]
    rcases List.mem_cons.1 h with rfl | h
    · exact .inl hn
    · exact .inr (mem_weightsAll h n hn)
theorem sub_at2 {t : TypeId} {fs : Array Field} {n : Nat} {cs : List Value} {x : DataW H × List MemPlace} (ht : P.underlying t = some (.struct fs)) (h : DataW.trod enc P w base spare held n t cs = some x) (hw : InReach P t x.1) :
    cs.length = P.cellsOf t ∧ ∃ m, ∀ (j : Nat) (f : Field) (off : Nat) (ty : TypeId) (k : Nat), fs[j]? = some f → f.offset = off → f.type = ty → P.cellsOf ty = k → ∃ y, DataW.trod enc P w base spare held m ty ((cs.drop off).take k) = some y ∧ InReach P ty y.1 := by
  obtain ⟨xs, m, _, hx, hl, hlen, hf⟩ := DataW.trod_struct ht h
  refine ⟨hl, m, fun j f off ty k hj ho hty hk => ?_⟩
  have h1 := hf j f hj
  have hjl : j < xs.length := by rw [hlen]; exact (Array.getElem?_eq_some_iff.1 hj).1
  subst ho hty hk
  refine ⟨_, h1.trans (List.getElem?_eq_getElem hjl), fun q hq => hw q ?_⟩
  rw [hx]
  simp only [DataW.weights, ht]
  exact DataW.weights_mem_each (j := j) (t := f.type) (by simpa using congrArg (Option.map (·.type)) hj) (by simp [hjl]) q hq
theorem open_rd2 {α : Type} {encV : α → List Value} {Q : α → Prop} {k : Nat} (hk : ∀ x, (encV x).length = k) (hk0 : 0 < k) {t e : TypeId} {n : Nat} {cs : List Value} {x : DataW H × List MemPlace} (ht : P.underlying t = some (.slice e)) (hC : P.cellsOf e = k)
    (hel : ∀ n cs y, DataW.trod enc P w base spare held n e cs = some y → InReach P e y.1 → ∃ r, cs = encV r ∧ Q r) (h : DataW.trod enc P w base spare held n t cs = some x) (hw : InReach P t x.1) :
    ∃ (v : Value) (L : List α), cs = [v] ∧ Rd w w.heap.size k v L.length (L.flatMap encV) ∧ L.length ≤ maxLen ∧ (∀ r ∈ L, Q r) ∧ L.length * P.bytesOf e ≤ reachBytes := by
  rcases open_slice ht h with ⟨h0, _⟩ | ⟨a, len, cap, m, n', D, Pl, hcs, _, hl, hm, hmm, hx, hi⟩
  · exact ⟨_, [], h0, ⟨none, 0, rfl, by simp, by simp, fun h => absurd h (by simp)⟩, by simp, by simp, by simp⟩
  · have hlm : len ≤ m := by rw [hmm]; split <;> omega
    have hw1 : ∀ i, i < len → InReach P e (D i) := fun i hi' q hq => by
      refine hw q ?_
      rw [hx]
      simp only [DataW.weights, ht]
      refine List.mem_cons_of_mem _ (List.mem_append_left _ (mem_weightsAll (d := D i) ?_ q hq))
      exact List.mem_map.2 ⟨i, List.mem_range.2 hi', rfl⟩
    have hw2 : len * P.bytesOf e ≤ reachBytes := by
      have := hw ((((List.range len).map D).length + ((List.range (m - len)).map fun j => D (len + j)).length) * P.bytesOf e) (by rw [hx]; simp only [DataW.weights, ht]; exact List.mem_cons_self ..)
      refine Nat.le_trans (Nat.mul_le_mul_right _ ?_) this
      simp
    obtain ⟨L, hL, hq⟩ := list_told (Q := fun i r => w.cells? base (a.add (i * k)) k = some (encV r) ∧ Q r) len (fun i hi' => by
      obtain ⟨cs', hc, ht'⟩ := hi i (by omega)
      obtain ⟨r, hr, hQ⟩ := hel _ _ _ ht' (hw1 i hi')
      rw [hC] at hc
      exact ⟨r, by rw [hc, hr], hQ⟩)
    refine ⟨_, L, hcs, ⟨some a, cap, by rw [hL], by omega, flat_len encV k hk L, fun hpos => ?_⟩, by omega, fun r hr => ?_, by rw [hL]; exact hw2⟩
    · obtain ⟨b, off, sp⟩ := a
      have hz : ∃ u, w.cell? ⟨b, off, sp⟩ = some u := by
        obtain ⟨r, hr⟩ : ∃ r, L[0]? = some r := ⟨_, List.getElem?_eq_getElem hpos⟩
        obtain ⟨_, _, hat⟩ := World.cells?_some (hq 0 r hr).1
        have h1 := hat 0 hk0
        have h2 : (encV r)[0]? = some ((encV r)[0]'(by rw [hk]; exact hk0)) := List.getElem?_eq_getElem _
        rw [h2] at h1
        refine ⟨_, Eq.trans ?_ h1⟩
        simp [Addr.add]
      obtain ⟨u0, hu0⟩ := hz
      obtain rfl := Go.Proofs.cell_spot hu0
      refine ⟨b, off, rfl, ?_, fun j u hu => ?_⟩
      · rcases Nat.lt_or_ge b w.heap.size with h | h
        · exact h
        · have hn : w.heap[b]? = none := by simp [h]
          simp [World.cell?, hn] at hu0
      · obtain ⟨i, jj, r, hj, hjj, hr, hu'⟩ := flat_inv encV k hk L j u hu
        obtain ⟨_, _, hat⟩ := World.cells?_some (hq i r hr).1
        have h1 := hat jj hjj
        rw [hu'] at h1
        have e : (Addr.add ⟨b, off, none⟩ (i * k)).add jj = ⟨b, off + j, none⟩ := by
          rw [hj]; simp only [Addr.add]
          split <;> split <;> simp_all <;> omega
        rw [← e]; exact h1
    · obtain ⟨i, hi', he⟩ := List.getElem_of_mem hr
      exact (hq i r (by rw [← he]; exact List.getElem?_eq_getElem hi')).2
end

end Go.Proofs.YtakkgamhceignaaGreatDoor

/-
  The cells of rules and of headers (written by wip/gen/genelem.py).
-/
namespace Go.Proofs.YtakkgamhceignaaGreatDoor
open Go Go.RowKit Go.ChangeShapes Go.WideShapes Go.Deep

set_option maxHeartbeats 1000000 in
theorem elem_rule {H : Type} {enc : TypeId × Value → H} {w : World} {base : Nat} {spare : Nat → Bool} {held : Bool} (n : Nat) (cs : List Value) (x : DataW H × List MemPlace) (h : DataW.trod enc Tryz.prog w base spare held n 29 cs = some x) : ∃ r : RuleV, cs = r.enc := by
  obtain ⟨l0, m0, s0⟩ := sub_at Tryz.underlying29 h
  rw [show Tryz.prog.cellsOf 29 = 10 from by kernel_rfl] at l0
  obtain ⟨c0, c1, c2, c3, c4, c5, c6, c7, c8, c9, rfl⟩ : ∃ c0 c1 c2 c3 c4 c5 c6 c7 c8 c9, cs = [c0, c1, c2, c3, c4, c5, c6, c7, c8, c9] := by
    match cs, l0 with
    | [c0, c1, c2, c3, c4, c5, c6, c7, c8, c9], _ => exact ⟨c0, c1, c2, c3, c4, c5, c6, c7, c8, c9, rfl⟩
  obtain ⟨_, g1⟩ := s0 0 _ 0 4 1 rfl rfl rfl (by kernel_rfl)
  replace g1 : DataW.trod enc Tryz.prog w base spare held m0 4 [c0] = some _ := g1
  obtain ⟨v0, e0, _⟩ := DataW.trod_bool Tryz.underlying4 g1
  obtain rfl := (List.cons.inj e0).1
  obtain ⟨_, g2⟩ := s0 1 _ 1 3 1 rfl rfl rfl (by kernel_rfl)
  replace g2 : DataW.trod enc Tryz.prog w base spare held m0 3 [c1] = some _ := g2
  obtain ⟨v1, e1, _, w1⟩ := DataW.trod_int Tryz.underlying3 g2
  have b1 := bounds_i64 w1
  obtain rfl := (List.cons.inj e1).1
  obtain ⟨_, g3⟩ := s0 2 _ 2 25 2 rfl rfl rfl (by kernel_rfl)
  replace g3 : DataW.trod enc Tryz.prog w base spare held m0 25 [c2, c3] = some _ := g3
  obtain ⟨l4, m4, s4⟩ := sub_at Tryz.underlying25 g3
  obtain ⟨_, g5⟩ := s4 0 _ 0 23 1 rfl rfl rfl (by kernel_rfl)
  replace g5 : DataW.trod enc Tryz.prog w base spare held m4 23 [c2] = some _ := g5
  obtain ⟨v2, e2, _, w2⟩ := DataW.trod_int Tryz.underlying23 g5
  have b2 := bounds_u32 w2
  obtain rfl := (List.cons.inj e2).1
  obtain ⟨_, g6⟩ := s4 1 _ 1 3 1 rfl rfl rfl (by kernel_rfl)
  replace g6 : DataW.trod enc Tryz.prog w base spare held m4 3 [c3] = some _ := g6
  obtain ⟨v3, e3, _, w3⟩ := DataW.trod_int Tryz.underlying3 g6
  have b3 := bounds_i64 w3
  obtain rfl := (List.cons.inj e3).1
  obtain ⟨_, g7⟩ := s0 3 _ 4 25 2 rfl rfl rfl (by kernel_rfl)
  replace g7 : DataW.trod enc Tryz.prog w base spare held m0 25 [c4, c5] = some _ := g7
  obtain ⟨l8, m8, s8⟩ := sub_at Tryz.underlying25 g7
  obtain ⟨_, g9⟩ := s8 0 _ 0 23 1 rfl rfl rfl (by kernel_rfl)
  replace g9 : DataW.trod enc Tryz.prog w base spare held m8 23 [c4] = some _ := g9
  obtain ⟨v4, e4, _, w4⟩ := DataW.trod_int Tryz.underlying23 g9
  have b4 := bounds_u32 w4
  obtain rfl := (List.cons.inj e4).1
  obtain ⟨_, g10⟩ := s8 1 _ 1 3 1 rfl rfl rfl (by kernel_rfl)
  replace g10 : DataW.trod enc Tryz.prog w base spare held m8 3 [c5] = some _ := g10
  obtain ⟨v5, e5, _, w5⟩ := DataW.trod_int Tryz.underlying3 g10
  have b5 := bounds_i64 w5
  obtain rfl := (List.cons.inj e5).1
  obtain ⟨_, g11⟩ := s0 4 _ 6 27 2 rfl rfl rfl (by kernel_rfl)
  replace g11 : DataW.trod enc Tryz.prog w base spare held m0 27 [c6, c7] = some _ := g11
  obtain ⟨l12, m12, s12⟩ := sub_at Tryz.underlying27 g11
  obtain ⟨_, g13⟩ := s12 0 _ 0 22 1 rfl rfl rfl (by kernel_rfl)
  replace g13 : DataW.trod enc Tryz.prog w base spare held m12 22 [c6] = some _ := g13
  obtain ⟨v6, e6, _, w6⟩ := DataW.trod_int Tryz.underlying22 g13
  have b6 := bounds_u32 w6
  obtain rfl := (List.cons.inj e6).1
  obtain ⟨_, g14⟩ := s12 1 _ 1 22 1 rfl rfl rfl (by kernel_rfl)
  replace g14 : DataW.trod enc Tryz.prog w base spare held m12 22 [c7] = some _ := g14
  obtain ⟨v7, e7, _, w7⟩ := DataW.trod_int Tryz.underlying22 g14
  have b7 := bounds_u32 w7
  obtain rfl := (List.cons.inj e7).1
  obtain ⟨_, g15⟩ := s0 5 _ 8 27 2 rfl rfl rfl (by kernel_rfl)
  replace g15 : DataW.trod enc Tryz.prog w base spare held m0 27 [c8, c9] = some _ := g15
  obtain ⟨l16, m16, s16⟩ := sub_at Tryz.underlying27 g15
  obtain ⟨_, g17⟩ := s16 0 _ 0 22 1 rfl rfl rfl (by kernel_rfl)
  replace g17 : DataW.trod enc Tryz.prog w base spare held m16 22 [c8] = some _ := g17
  obtain ⟨v8, e8, _, w8⟩ := DataW.trod_int Tryz.underlying22 g17
  have b8 := bounds_u32 w8
  obtain rfl := (List.cons.inj e8).1
  obtain ⟨_, g18⟩ := s16 1 _ 1 22 1 rfl rfl rfl (by kernel_rfl)
  replace g18 : DataW.trod enc Tryz.prog w base spare held m16 22 [c9] = some _ := g18
  obtain ⟨v9, e9, _, w9⟩ := DataW.trod_int Tryz.underlying22 g18
  have b9 := bounds_u32 w9
  obtain rfl := (List.cons.inj e9).1
  exact ⟨⟨v0, v1, v2, v3, v4, v5, v6, v7, v8, v9, by omega, ⟨by omega, by omega⟩, ⟨by omega, by omega⟩, ⟨by omega, by omega⟩, ⟨by omega, by omega⟩, ⟨by omega, by omega⟩, ⟨by omega, by omega⟩⟩, rfl⟩

set_option maxHeartbeats 1000000 in
theorem elem_header {H : Type} {enc : TypeId × Value → H} {w : World} {base : Nat} {spare : Nat → Bool} {held : Bool} (n : Nat) (cs : List Value) (x : DataW H × List MemPlace) (h : DataW.trod enc Tryz.prog w base spare held n 68 cs = some x) : ∃ r : HeaderV, cs = r.enc := by
  obtain ⟨l0, m0, s0⟩ := sub_at Tryz.underlying68 h
  rw [show Tryz.prog.cellsOf 68 = 5 from by kernel_rfl] at l0
  obtain ⟨c0, c1, c2, c3, c4, rfl⟩ : ∃ c0 c1 c2 c3 c4, cs = [c0, c1, c2, c3, c4] := by
    match cs, l0 with
    | [c0, c1, c2, c3, c4], _ => exact ⟨c0, c1, c2, c3, c4, rfl⟩
  obtain ⟨_, g1⟩ := s0 0 _ 0 23 1 rfl rfl rfl (by kernel_rfl)
  replace g1 : DataW.trod enc Tryz.prog w base spare held m0 23 [c0] = some _ := g1
  obtain ⟨v0, e0, _, w0⟩ := DataW.trod_int Tryz.underlying23 g1
  have b0 := bounds_u32 w0
  obtain rfl := (List.cons.inj e0).1
  obtain ⟨_, g2⟩ := s0 1 _ 1 23 1 rfl rfl rfl (by kernel_rfl)
  replace g2 : DataW.trod enc Tryz.prog w base spare held m0 23 [c1] = some _ := g2
  obtain ⟨v1, e1, _, w1⟩ := DataW.trod_int Tryz.underlying23 g2
  have b1 := bounds_u32 w1
  obtain rfl := (List.cons.inj e1).1
  obtain ⟨_, g3⟩ := s0 2 _ 2 5 1 rfl rfl rfl (by kernel_rfl)
  replace g3 : DataW.trod enc Tryz.prog w base spare held m0 5 [c2] = some _ := g3
  obtain ⟨v2, e2, _, w2⟩ := DataW.trod_int Tryz.underlying5 g3
  have b2 := bounds_u8 w2
  obtain rfl := (List.cons.inj e2).1
  obtain ⟨_, g4⟩ := s0 3 _ 3 66 1 rfl rfl rfl (by kernel_rfl)
  replace g4 : DataW.trod enc Tryz.prog w base spare held m0 66 [c3] = some _ := g4
  obtain ⟨v3, e3, _, w3⟩ := DataW.trod_int Tryz.underlying66 g4
  have b3 := bounds_u16 w3
  obtain rfl := (List.cons.inj e3).1
  obtain ⟨_, g5⟩ := s0 4 _ 4 66 1 rfl rfl rfl (by kernel_rfl)
  replace g5 : DataW.trod enc Tryz.prog w base spare held m0 66 [c4] = some _ := g5
  obtain ⟨v4, e4, _, w4⟩ := DataW.trod_int Tryz.underlying66 g5
  have b4 := bounds_u16 w4
  obtain rfl := (List.cons.inj e4).1
  exact ⟨⟨v0, v1, v2, v3, v4, ⟨by omega, by omega⟩, ⟨by omega, by omega⟩, by omega, by omega, by omega⟩, rfl⟩

theorem elem_filter {H : Type} {enc : TypeId × Value → H} {w : World} {base : Nat} {spare : Nat → Bool} {held : Bool} (n : Nat) (cs : List Value) (x : DataW H × List MemPlace) (h : DataW.trod enc Tryz.prog w base spare held n 39 cs = some x) :
    ∃ (nm : ByteArray) (v : Value) (L : List RuleV), cs = [.string nm, v] ∧ Rd w w.heap.size 10 v L.length (rcells L) ∧ L.length ≤ maxLen := by
  obtain ⟨l0, m0, s0⟩ := sub_at Tryz.underlying39 h
  rw [show Tryz.prog.cellsOf 39 = 2 from by kernel_rfl] at l0
  obtain ⟨c0, c1, rfl⟩ : ∃ c0 c1, cs = [c0, c1] := by
    match cs, l0 with
    | [c0, c1], _ => exact ⟨c0, c1, rfl⟩
  obtain ⟨_, g1⟩ := s0 0 _ 0 9 1 rfl rfl rfl (by kernel_rfl)
  replace g1 : DataW.trod enc Tryz.prog w base spare held m0 9 [c0] = some _ := g1
  obtain ⟨nm, e0, _⟩ := DataW.trod_string Tryz.underlying9 g1
  obtain rfl := (List.cons.inj e0).1
  obtain ⟨_, g2⟩ := s0 1 _ 1 37 1 rfl rfl rfl (by kernel_rfl)
  replace g2 : DataW.trod enc Tryz.prog w base spare held m0 37 [c1] = some _ := g2
  obtain ⟨v, L, hv, hr, hl⟩ := open_rd rule_len (by decide) Tryz.underlying37 (by kernel_rfl) elem_rule g2
  obtain rfl := (List.cons.inj hv).1
  exact ⟨nm, c1, L, rfl, hr, hl⟩

end Go.Proofs.YtakkgamhceignaaGreatDoor

/-
  A filter that lies in a slice that came in: its name, its rules.
-/
namespace Go.Proofs.YtakkgamhceignaaGreatDoor
open Go Go.RowKit Go.ChangeShapes Go.WideShapes Go.Deep

set_option maxHeartbeats 1000000 in
theorem elem_filtS {H : Type} {enc : TypeId × Value → H} {w : World} {base : Nat} {spare : Nat → Bool} {held : Bool} (n : Nat) (cs : List Value) (x : DataW H × List MemPlace) (h : DataW.trod enc Tryz.prog w base spare held n 39 cs = some x) (hw : InReach Tryz.prog 39 x.1) :
    ∃ f : FiltV, cs = f.enc ∧ (Rd w w.heap.size 10 f.v f.L.length (rcells f.L) ∧ f.L.length * 64 + 64 ≤ 140737488355328) := by
  obtain ⟨l0, m0, s0⟩ := sub_at2 Tryz.underlying39 h hw
  rw [show Tryz.prog.cellsOf 39 = 2 from by kernel_rfl] at l0
  obtain ⟨c0, c1, rfl⟩ : ∃ c0 c1, cs = [c0, c1] := by
    match cs, l0 with
    | [c0, c1], _ => exact ⟨c0, c1, rfl⟩
  obtain ⟨_, g1, _⟩ := s0 0 _ 0 9 1 rfl rfl rfl (by kernel_rfl)
  replace g1 : DataW.trod enc Tryz.prog w base spare held m0 9 [c0] = some _ := g1
  obtain ⟨nm, e0, _⟩ := DataW.trod_string Tryz.underlying9 g1
  obtain rfl := (List.cons.inj e0).1
  obtain ⟨_, g2, hw2⟩ := s0 1 _ 1 37 1 rfl rfl rfl (by kernel_rfl)
  replace g2 : DataW.trod enc Tryz.prog w base spare held m0 37 [c1] = some _ := g2
  obtain ⟨v, L, hv, hr, hl, _, hb⟩ := open_rd2 (Q := fun _ => True) rule_len (by decide) Tryz.underlying37 (by kernel_rfl) (fun n cs y h _ => by
    obtain ⟨r, hr⟩ := elem_rule n cs y h
    exact ⟨r, hr, trivial⟩) g2 hw2
  obtain rfl := (List.cons.inj hv).1
  rw [show Tryz.prog.bytesOf 29 = 64 from by kernel_rfl] at hb
  exact ⟨⟨nm, c1, L⟩, rfl, hr, by show L.length * 64 + 64 ≤ 140737488355328; have : reachBytes = 140737488351232 := rfl; rw [this] at hb; omega⟩

theorem elem_filt {H : Type} {enc : TypeId × Value → H} {w : World} {base : Nat} {spare : Nat → Bool} {held : Bool} (n : Nat) (cs : List Value) (x : DataW H × List MemPlace) (h : DataW.trod enc Tryz.prog w base spare held n 39 cs = some x) (hw : InReach Tryz.prog 39 x.1) :
    ∃ f : FiltV, cs = f.enc ∧ (Rd w w.heap.size 10 f.v f.L.length (rcells f.L) ∧ f.L.length * 64 ≤ 140737488355328) := by
  obtain ⟨f, h1, h2, h3⟩ := elem_filtS n cs x h hw
  exact ⟨f, h1, h2, by omega⟩

end Go.Proofs.YtakkgamhceignaaGreatDoor
