/-
  Joined texts: Ra7, MixS, MixT, Ra18.
-/
import Derived.Test.YtbanbommgcjmjaaMRoutesAdverts8
import Derived.Deep.DeepCutAuto
import Derived.Deep.CutBlock
import Derived.Deep.RegionLaw
import Derived.StillTailTactics
import Derived.Test.YtbanbommgcjmjaaMRoutesAdverts2
import Derived.StillTail
/-
  The document's SortAdverts (written by wip/gen/genra7.py).
-/
namespace Go.Proofs.Ytbanbommgcjmjaa
open Go Go.RowKit Go.Lib Go.Sort

theorem ins_lenA {R : List AdX} {x : AdX} {k : Nat} (hk : k ≤ R.length) : (R.take k ++ x :: R.drop k).length = R.length + 1 := by simp; omega
/-- The sorted list is handed back, in new memory. -/
def SortResA (L : List AdX) (w : World) (e : Ending) (w' : World) : Prop :=
  ∃ (v : Value) (S : List AdX), e = .returned v ∧ SortedA (L.map AdX.v) (S.map AdX.v) ∧ S.length ≤ L.length ∧ w'.ownsRow w.heap.size 36 13 v S.length (adcells S) ∧ (∀ y ∈ S, AdG w' v.ownBlock w.heap.size y) ∧ Below w.heap.size w w'
theorem own_upA {a w w' : World} {n : Nat} {v : Value} {xs : List Value} (h : w.ownsRow a.heap.size 36 13 v n xs) (hb : Below w.heap.size w w') : w'.ownsRow a.heap.size 36 13 v n xs := owns_kept_none h (only_of_below hb none)
set_option maxRecDepth 100000 in
set_option maxHeartbeats 8000000 in
theorem refSortA_any (L : List AdX) (vl : Value) (w : World) (hl : Rd w w.heap.size 13 vl L.length (adcells L)) (hA : ∀ x ∈ L, AdOk w w.heap.size x ∧ AdNil x) (hlen : L.length ≤ 1000000) :
    Calls Try.prog 12 #[vl] w (SortResA L w) := by
  obtain ⟨i0, hi, hz0, hz1, hz2⟩ := info_parts Try.infoAdvert
  obtain ⟨Al, cl, rfl, _⟩ := hl.form
  have HL := Lib.hid hl
  have HAL := Lib.hid hA
  clear hl hA
  go_enter Try.func12, Try.ntmps12
  go_wp2
  go_loopw [3, 4] (fun v i wr => ∃ (j : Nat) (R : List AdX), i = .int .i64 j ∧ j ≤ L.length ∧ Hid (SortedA ((L.take j).map AdX.v) (R.map AdX.v)) ∧ R.length ≤ j ∧ Hid (wr.ownsRow w.heap.size 36 13 v R.length (adcells R)) ∧ Hid (Below w.heap.size w wr) ∧ Hid (∀ y ∈ R, AdG wr v.ownBlock w.heap.size y)) (fun _ i _ => L.length - (intOf i).toNat)
  case atStart => exact ⟨0, [], rfl, by omega, sorted_nilA, by simp, World.ownsRow_nil _ _ _ _, Below.refl _ _, fun y hy => absurd hy (by simp)⟩
  case round =>
    obtain ⟨j, R, rfl, hj, HS, hRj, HO, HB, HAR⟩ := hrel
    by_cases hlt : j < L.length
    · have hI : (j : Int) < (L.length : Int) := by omega
      obtain ⟨x, hx⟩ : ∃ x, L[j]? = some x := ⟨_, List.getElem?_eq_getElem hlt⟩
      have HX := Lib.hid hx
      have HXM := Lib.hid (HAL.out x (List.mem_of_getElem? hx))
      obtain ⟨A0, c0, hv0, hA0⟩ := owns_form HO.out
      subst hv0
      have hsz := HB.out.size
      clear hx
      go_upto_block 2 with fail
      go_cut [5] (fun s5 wx => ∃ k : Nat, s5 = .int .i64 k ∧ k ≤ R.length ∧ Hid (∀ (i : Nat) y, k ≤ i → R[i]? = some y → cmpA x.v y.v < 0) ∧ Hid (0 < k → ∃ y, R[k - 1]? = some y ∧ 0 ≤ cmpA x.v y.v) ∧ Hid (Below wr.heap.size wr wx))
      case first =>
        go_wp2_with fail
        go_loopw [5] (fun s5 wx => ∃ k : Nat, s5 = .int .i64 k ∧ k ≤ R.length ∧ Hid (∀ (i : Nat) y, k ≤ i → R[i]? = some y → cmpA x.v y.v < 0) ∧ Hid (Below wr.heap.size wr wx)) (fun s5 _ => (intOf s5).toNat)
        case atStart => exact ⟨R.length, rfl, by omega, (fun i y hi h => by have := (List.getElem?_eq_some_iff.1 h).1; omega), Below.refl _ _⟩
        case round =>
          obtain ⟨k, rfl, hk, HG, HN⟩ := hrel
          rename World => wx
          rcases k with _ | k
          · go_wp2
            refine wp_region_quiet_below (by kernel_rfl) (by kernel_rfl) ?_
            repeat (first | go_big_quiet_step ((go_at_call 17; exact Calls.regrown_of (HCM.out _ (below_regrown _ _ _)))) | quiet_step ((go_at_call 17; exact Calls.regrown_of (HCM.out _ (below_regrown _ _ _)))))
            refine wpQuiet_nil ?_
            intro _ hw'
            obtain ⟨⟨nq, osq⟩, hw''⟩ := hw'
            subst hw''
            have hq := below_regrown wx nq osq
            go_wp2
            go_meet
            exact ⟨0, rfl, by omega, HG, (fun h => absurd h (by omega)), HN.out.trans (hq.mono HN.out.size)⟩
          · obtain ⟨y, hy⟩ : ∃ y, R[k]? = some y := ⟨_, List.getElem?_eq_getElem (by omega)⟩
            have HY := Lib.hid hy
            obtain ⟨g, rfl⟩ := hA0 (by omega)
            have hg : g < wr.heap.size := (HO.out.lt g rfl).2
            have hy9 : ∀ (n : Nat) (v : Value), y.enc[n]? = some v → wx.cell? ⟨g, k * 13 + n, none⟩ = some v := fun n v hv => (HN.out.cell (p := ⟨g, k * 13 + n, none⟩) hg).trans ((HO.out.cellAt (k * 13 + n) (by have := (List.getElem?_eq_some_iff.1 hv).1; rw [ad_len] at this; omega)).trans (adcell hy hv))
            obtain ⟨b, off, c', hv, _, hbB, hcell⟩ := (HL.out.below (HB.out.trans (HN.out.mono hsz))).posAt (by omega)
            injection hv with hv1 _ hv3
            subst hv1 hv3
            have f0 : wx.cell? ⟨b, off + j * 13, none⟩ = some (.int .u32 x.v.a) := hcell j 0 _ (adcell HX.out rfl)
            have e0 : wx.cell? ⟨g, k * 13, none⟩ = some (.int .u32 y.v.a) := hy9 0 _ rfl
            have F0 := cell_regrown f0
            have E0 := cell_regrown e0
            have f1 : wx.cell? ⟨b, off + j * 13 + 1, none⟩ = some (.int .i64 x.v.m) := hcell j 1 _ (adcell HX.out rfl)
            have e1 : wx.cell? ⟨g, k * 13 + 1, none⟩ = some (.int .i64 y.v.m) := hy9 1 _ rfl
            have F1 := cell_regrown f1
            have E1 := cell_regrown e1
            have f2 : wx.cell? ⟨b, off + j * 13 + 2, none⟩ = some (.int .u32 x.v.ho) := hcell j 2 _ (adcell HX.out rfl)
            have e2 : wx.cell? ⟨g, k * 13 + 2, none⟩ = some (.int .u32 y.v.ho) := hy9 2 _ rfl
            have F2 := cell_regrown f2
            have E2 := cell_regrown e2
            have f3 : wx.cell? ⟨b, off + j * 13 + 3, none⟩ = some (.int .i64 x.v.pf) := hcell j 3 _ (adcell HX.out rfl)
            have e3 : wx.cell? ⟨g, k * 13 + 3, none⟩ = some (.int .i64 y.v.pf) := hy9 3 _ rfl
            have F3 := cell_regrown f3
            have E3 := cell_regrown e3
            have f4 : wx.cell? ⟨b, off + j * 13 + 4, none⟩ = some (.int .i64 x.v.me) := hcell j 4 _ (adcell HX.out rfl)
            have e4 : wx.cell? ⟨g, k * 13 + 4, none⟩ = some (.int .i64 y.v.me) := hy9 4 _ rfl
            have F4 := cell_regrown f4
            have E4 := cell_regrown e4
            have f5 : wx.cell? ⟨b, off + j * 13 + 5, none⟩ = some x.p := hcell j 5 _ (adcell HX.out rfl)
            have e5 : wx.cell? ⟨g, k * 13 + 5, none⟩ = some y.p := hy9 5 _ rfl
            have F5 := cell_regrown f5
            have E5 := cell_regrown e5
            have f6 : wx.cell? ⟨b, off + j * 13 + 6, none⟩ = some x.o := hcell j 6 _ (adcell HX.out rfl)
            have e6 : wx.cell? ⟨g, k * 13 + 6, none⟩ = some y.o := hy9 6 _ rfl
            have F6 := cell_regrown f6
            have E6 := cell_regrown e6
            have f7 : wx.cell? ⟨b, off + j * 13 + 7, none⟩ = some (.int .u32 x.v.pe) := hcell j 7 _ (adcell HX.out rfl)
            have e7 : wx.cell? ⟨g, k * 13 + 7, none⟩ = some (.int .u32 y.v.pe) := hy9 7 _ rfl
            have F7 := cell_regrown f7
            have E7 := cell_regrown e7
            have f8 : wx.cell? ⟨b, off + j * 13 + 8, none⟩ = some (.int .u32 x.v.id) := hcell j 8 _ (adcell HX.out rfl)
            have e8 : wx.cell? ⟨g, k * 13 + 8, none⟩ = some (.int .u32 y.v.id) := hy9 8 _ rfl
            have F8 := cell_regrown f8
            have E8 := cell_regrown e8
            have f9 : wx.cell? ⟨b, off + j * 13 + 9, none⟩ = some (.bool x.v.ex) := hcell j 9 _ (adcell HX.out rfl)
            have e9 : wx.cell? ⟨g, k * 13 + 9, none⟩ = some (.bool y.v.ex) := hy9 9 _ rfl
            have F9 := cell_regrown f9
            have E9 := cell_regrown e9
            have f10 : wx.cell? ⟨b, off + j * 13 + 10, none⟩ = some (.int .u32 x.v.og) := hcell j 10 _ (adcell HX.out rfl)
            have e10 : wx.cell? ⟨g, k * 13 + 10, none⟩ = some (.int .u32 y.v.og) := hy9 10 _ rfl
            have F10 := cell_regrown f10
            have E10 := cell_regrown e10
            have f11 : wx.cell? ⟨b, off + j * 13 + 11, none⟩ = some x.l := hcell j 11 _ (adcell HX.out rfl)
            have e11 : wx.cell? ⟨g, k * 13 + 11, none⟩ = some y.l := hy9 11 _ rfl
            have F11 := cell_regrown f11
            have E11 := cell_regrown e11
            have f12 : wx.cell? ⟨b, off + j * 13 + 12, none⟩ = some (.int .i64 x.v.ss) := hcell j 12 _ (adcell HX.out rfl)
            have e12 : wx.cell? ⟨g, k * 13 + 12, none⟩ = some (.int .i64 y.v.ss) := hy9 12 _ rfl
            have F12 := cell_regrown f12
            have E12 := cell_regrown e12
            clear hcell hy9 hy f0 e0 f1 e1 f2 e2 f3 e3 f4 e4 f5 e5 f6 e6 f7 e7 f8 e8 f9 e9 f10 e10 f11 e11 f12 e12
            have hxok := HXM.out.1.next (HB.out.trans (HN.out.mono hsz))
            have hyok := ((HAR.out y (List.mem_of_getElem? HY.out)).next HN.out).ok
            have HCM := Lib.hid (fun W (hW : Below wx.heap.size wx W) => refAcmpX x y W (hxok.next hW) (hyok.next hW))
            clear hxok hyok
            by_cases hlt2 : cmpA x.v y.v < 0
            · have HLT := Lib.hid hlt2
              go_wp2
              refine wp_region_quiet_below (by kernel_rfl) (by kernel_rfl) ?_
              repeat (first | go_big_quiet_step ((go_at_call 17; exact Calls.regrown_of (HCM.out _ (below_regrown _ _ _)))) | quiet_step ((go_at_call 17; exact Calls.regrown_of (HCM.out _ (below_regrown _ _ _)))))
              refine wpQuiet_nil ?_
              intro _ hw'
              obtain ⟨⟨nq, osq⟩, hw''⟩ := hw'
              subst hw''
              have hq := below_regrown wx nq osq
              go_wp2
              refine ⟨⟨k, rfl, by omega, ?_, HN.out.trans (hq.mono HN.out.size)⟩, by simp only [intOf]; omega⟩
              intro i z hi hz
              rcases Nat.eq_or_lt_of_le hi with rfl | hi
              · have := HY.out
                rw [this] at hz
                injection hz with hz
                rw [← hz]; exact HLT.out
              · exact HG.out i z hi hz
            · have HLT := Lib.hid hlt2
              go_wp2
              refine wp_region_quiet_below (by kernel_rfl) (by kernel_rfl) ?_
              repeat (first | go_big_quiet_step ((go_at_call 17; exact Calls.regrown_of (HCM.out _ (below_regrown _ _ _)))) | quiet_step ((go_at_call 17; exact Calls.regrown_of (HCM.out _ (below_regrown _ _ _)))))
              refine wpQuiet_nil ?_
              intro _ hw'
              obtain ⟨⟨nq, osq⟩, hw''⟩ := hw'
              subst hw''
              have hq := below_regrown wx nq osq
              go_wp2
              go_meet
              exact ⟨k + 1, rfl, by omega, HG, (fun _ => ⟨y, HY.out, by have := HLT.out; omega⟩), HN.out.trans (hq.mono HN.out.size)⟩
      case rest =>
        obtain ⟨k, rfl, hk, HG, HE, HN⟩ := hcut
        go_upto_region 8 with fail
        go_cut [45] (fun s45 wx => Hid ((s45 = .bool true ∧ x.v ∈ R.map AdX.v) ∨ (s45 = .bool false ∧ (0 < k → ∃ y, R[k - 1]? = some y ∧ 0 < cmpA x.v y.v))) ∧ Hid (Below wr.heap.size wr wx))
        case first =>
          rcases k with _ | k
          · go_wp2
            refine wp_region_quiet_below (by kernel_rfl) (by kernel_rfl) ?_
            repeat (first | go_big_quiet_step ((go_at_call 17; exact Calls.regrown_of (HCM.out _ (below_regrown _ _ _)))) | quiet_step ((go_at_call 17; exact Calls.regrown_of (HCM.out _ (below_regrown _ _ _)))))
            refine wpQuiet_nil ?_
            intro _ hw'
            obtain ⟨⟨nq, osq⟩, hw''⟩ := hw'
            subst hw''
            have hq := below_regrown wc nq osq
            go_wp2
            go_meet
            exact ⟨.inr ⟨rfl, fun h => absurd h (by omega)⟩, HN.out.trans (hq.mono HN.out.size)⟩
          · obtain ⟨y, hy, hyx⟩ := HE.out (by omega)
            replace hy : R[k]? = some y := hy
            have HY := Lib.hid hy
            obtain ⟨g, rfl⟩ := hA0 (by omega)
            have hg : g < wr.heap.size := (HO.out.lt g rfl).2
            have hy9 : ∀ (n : Nat) (v : Value), y.enc[n]? = some v → wc.cell? ⟨g, k * 13 + n, none⟩ = some v := fun n v hv => (HN.out.cell (p := ⟨g, k * 13 + n, none⟩) hg).trans ((HO.out.cellAt (k * 13 + n) (by have := (List.getElem?_eq_some_iff.1 hv).1; rw [ad_len] at this; omega)).trans (adcell hy hv))
            obtain ⟨b, off, c', hv, _, hbB, hcell⟩ := (HL.out.below (HB.out.trans (HN.out.mono hsz))).posAt (by omega)
            injection hv with hv1 _ hv3
            subst hv1 hv3
            have f0 : wc.cell? ⟨b, off + j * 13, none⟩ = some (.int .u32 x.v.a) := hcell j 0 _ (adcell HX.out rfl)
            have e0 : wc.cell? ⟨g, k * 13, none⟩ = some (.int .u32 y.v.a) := hy9 0 _ rfl
            have F0 := cell_regrown f0
            have E0 := cell_regrown e0
            have f1 : wc.cell? ⟨b, off + j * 13 + 1, none⟩ = some (.int .i64 x.v.m) := hcell j 1 _ (adcell HX.out rfl)
            have e1 : wc.cell? ⟨g, k * 13 + 1, none⟩ = some (.int .i64 y.v.m) := hy9 1 _ rfl
            have F1 := cell_regrown f1
            have E1 := cell_regrown e1
            have f2 : wc.cell? ⟨b, off + j * 13 + 2, none⟩ = some (.int .u32 x.v.ho) := hcell j 2 _ (adcell HX.out rfl)
            have e2 : wc.cell? ⟨g, k * 13 + 2, none⟩ = some (.int .u32 y.v.ho) := hy9 2 _ rfl
            have F2 := cell_regrown f2
            have E2 := cell_regrown e2
            have f3 : wc.cell? ⟨b, off + j * 13 + 3, none⟩ = some (.int .i64 x.v.pf) := hcell j 3 _ (adcell HX.out rfl)
            have e3 : wc.cell? ⟨g, k * 13 + 3, none⟩ = some (.int .i64 y.v.pf) := hy9 3 _ rfl
            have F3 := cell_regrown f3
            have E3 := cell_regrown e3
            have f4 : wc.cell? ⟨b, off + j * 13 + 4, none⟩ = some (.int .i64 x.v.me) := hcell j 4 _ (adcell HX.out rfl)
            have e4 : wc.cell? ⟨g, k * 13 + 4, none⟩ = some (.int .i64 y.v.me) := hy9 4 _ rfl
            have F4 := cell_regrown f4
            have E4 := cell_regrown e4
            have f5 : wc.cell? ⟨b, off + j * 13 + 5, none⟩ = some x.p := hcell j 5 _ (adcell HX.out rfl)
            have e5 : wc.cell? ⟨g, k * 13 + 5, none⟩ = some y.p := hy9 5 _ rfl
            have F5 := cell_regrown f5
            have E5 := cell_regrown e5
            have f6 : wc.cell? ⟨b, off + j * 13 + 6, none⟩ = some x.o := hcell j 6 _ (adcell HX.out rfl)
            have e6 : wc.cell? ⟨g, k * 13 + 6, none⟩ = some y.o := hy9 6 _ rfl
            have F6 := cell_regrown f6
            have E6 := cell_regrown e6
            have f7 : wc.cell? ⟨b, off + j * 13 + 7, none⟩ = some (.int .u32 x.v.pe) := hcell j 7 _ (adcell HX.out rfl)
            have e7 : wc.cell? ⟨g, k * 13 + 7, none⟩ = some (.int .u32 y.v.pe) := hy9 7 _ rfl
            have F7 := cell_regrown f7
            have E7 := cell_regrown e7
            have f8 : wc.cell? ⟨b, off + j * 13 + 8, none⟩ = some (.int .u32 x.v.id) := hcell j 8 _ (adcell HX.out rfl)
            have e8 : wc.cell? ⟨g, k * 13 + 8, none⟩ = some (.int .u32 y.v.id) := hy9 8 _ rfl
            have F8 := cell_regrown f8
            have E8 := cell_regrown e8
            have f9 : wc.cell? ⟨b, off + j * 13 + 9, none⟩ = some (.bool x.v.ex) := hcell j 9 _ (adcell HX.out rfl)
            have e9 : wc.cell? ⟨g, k * 13 + 9, none⟩ = some (.bool y.v.ex) := hy9 9 _ rfl
            have F9 := cell_regrown f9
            have E9 := cell_regrown e9
            have f10 : wc.cell? ⟨b, off + j * 13 + 10, none⟩ = some (.int .u32 x.v.og) := hcell j 10 _ (adcell HX.out rfl)
            have e10 : wc.cell? ⟨g, k * 13 + 10, none⟩ = some (.int .u32 y.v.og) := hy9 10 _ rfl
            have F10 := cell_regrown f10
            have E10 := cell_regrown e10
            have f11 : wc.cell? ⟨b, off + j * 13 + 11, none⟩ = some x.l := hcell j 11 _ (adcell HX.out rfl)
            have e11 : wc.cell? ⟨g, k * 13 + 11, none⟩ = some y.l := hy9 11 _ rfl
            have F11 := cell_regrown f11
            have E11 := cell_regrown e11
            have f12 : wc.cell? ⟨b, off + j * 13 + 12, none⟩ = some (.int .i64 x.v.ss) := hcell j 12 _ (adcell HX.out rfl)
            have e12 : wc.cell? ⟨g, k * 13 + 12, none⟩ = some (.int .i64 y.v.ss) := hy9 12 _ rfl
            have F12 := cell_regrown f12
            have E12 := cell_regrown e12
            clear hcell hy9 hy f0 e0 f1 e1 f2 e2 f3 e3 f4 e4 f5 e5 f6 e6 f7 e7 f8 e8 f9 e9 f10 e10 f11 e11 f12 e12
            have HYX := Lib.hid hyx
            clear hyx HE
            have hxok := HXM.out.1.next (HB.out.trans (HN.out.mono hsz))
            have hyok := ((HAR.out y (List.mem_of_getElem? HY.out)).next HN.out).ok
            have HCM := Lib.hid (fun W (hW : Below wc.heap.size wc W) => refAcmpX x y W (hxok.next hW) (hyok.next hW))
            clear hxok hyok
            by_cases he : cmpA x.v y.v = 0
            · have HEQ := Lib.hid he
              have he2 : (cmpA x.v y.v == 0) = true := by simp [he]
              clear he
              go_wp2
              refine wp_region_quiet_below (by kernel_rfl) (by kernel_rfl) ?_
              repeat (first | go_big_quiet_step ((go_at_call 17; exact Calls.regrown_of (HCM.out _ (below_regrown _ _ _)))) | quiet_step ((go_at_call 17; exact Calls.regrown_of (HCM.out _ (below_regrown _ _ _)))))
              refine wpQuiet_nil ?_
              intro _ hw'
              obtain ⟨⟨nq, osq⟩, hw''⟩ := hw'
              subst hw''
              have hq := below_regrown wc nq osq
              go_wp2
              go_meet
              exact ⟨.inl ⟨rfl, by rw [cmpA_zero.1 HEQ.out]; exact List.mem_map_of_mem (List.mem_of_getElem? HY.out)⟩, HN.out.trans (hq.mono HN.out.size)⟩
            · have HEQ := Lib.hid he
              have he2 : (cmpA x.v y.v == 0) = false := by simp [he]
              clear he
              go_wp2
              refine wp_region_quiet_below (by kernel_rfl) (by kernel_rfl) ?_
              repeat (first | go_big_quiet_step ((go_at_call 17; exact Calls.regrown_of (HCM.out _ (below_regrown _ _ _)))) | quiet_step ((go_at_call 17; exact Calls.regrown_of (HCM.out _ (below_regrown _ _ _)))))
              refine wpQuiet_nil ?_
              intro _ hw'
              obtain ⟨⟨nq, osq⟩, hw''⟩ := hw'
              subst hw''
              have hq := below_regrown wc nq osq
              go_wp2
              go_meet
              exact ⟨.inr ⟨rfl, fun _ => ⟨y, HY.out, by have := HEQ.out; have := HYX.out; omega⟩⟩, HN.out.trans (hq.mono HN.out.size)⟩
        case rest =>
          obtain ⟨hres, HN⟩ := hcut
          clear HE
          have htk : L.take (j + 1) = L.take j ++ [x] := by rw [List.take_add_one, HX.out]; rfl
          rcases hres.out with ⟨rfl, hin⟩ | ⟨rfl, hlt3⟩
          · have HI := Lib.hid (show SortedA ((L.take (j + 1)).map AdX.v) (R.map AdX.v) by rw [htk, List.map_append]; exact sorted_skipA HS.out hin)
            clear hin htk hres
            go_wp2
            exact ⟨⟨j + 1, R, by go_num, by omega, HI, by omega, own_upA HO.out HN.out, HB.out.trans (HN.out.mono hsz), fun y hy => (HAR.out y hy).next HN.out⟩, by simp only [intOf]; omega⟩
          · have hI9 : ∀ y : AdX, y.v = x.v → SortedA ((L.take (j + 1)).map AdX.v) ((R.take k ++ y :: R.drop k).map AdX.v) := by
              intro y hyv
              have h9 := sorted_insA (k := k) (x := x.v) HS.out (by simpa using hk) (fun i z hi hz => by
                rw [List.getElem?_map] at hz
                obtain ⟨z2, hz2, rfl⟩ := Option.map_eq_some_iff.1 hz
                exact HG.out i z2 hi hz2) (fun h0 => by
                obtain ⟨z, hz, h2⟩ := hlt3 h0
                exact ⟨z.v, by rw [List.getElem?_map, hz]; rfl, h2⟩)
              simpa only [htk, List.map_append, List.map_cons, List.map_nil, List.map_take, List.map_drop, hyv] using h9
            have HI := Lib.hid hI9
            clear hI9
            clear htk hres hlt3
            rename World => wx
            have hown := own_upA HO.out HN.out
            have hbx := HB.out.trans (HN.out.mono hsz)
            have hszx := hbx.size
            have HAX : Hid (∀ y ∈ R, AdG wx (Value.slice A0 R.length c0).ownBlock w.heap.size y) := fun y hy => (HAR.out y hy).next HN.out
            clear HO HN HB HG HAR
            have HBX := Lib.hid hbx
            clear hbx
            go_wp2_with (at_builtin; refine wpList_pushG (v := .slice A0 R.length c0) rfl _ _ 32 rfl 36 i0 _ 13 136 Try.underlying32 hi hz0 hz1 hz2 rfl (by decide) (AdX.enc ⟨av0W, none, 0, none, 0, none, 0⟩) rfl rfl (by simp) hown rfl (aenc_one _) (by omega) (by omega) hszx HBX.out (Nat.le_refl _) ?_; intro g2 c2 w2 hown2 hgr2 hlies2 hb2)
            have HA2 : Hid (∀ y ∈ R, AdG w2 (some g2) w.heap.size y) := fun y hy => (HAX.out y hy).push hgr2 hlies2
            clear hgr2 hlies2 HAX
            obtain ⟨cur, hg2, hc2, hcm, hcs, htk, hbg⟩ := owns_block hown2
            have hsrc : ∀ i u, (adcells (R.drop k))[i]? = some u → w2.cell? ((⟨g2, k * 13, none⟩ : Addr).add i) = some u := by
              intro i u hu
              have e : (⟨g2, k * 13, none⟩ : Addr).add i = ⟨g2, k * 13 + i, none⟩ := by simp [Addr.add]
              have hi := (List.getElem?_eq_some_iff.1 hu).1
              rw [adcells_len, List.length_drop] at hi
              rw [e, hown2.cellAt (k * 13 + i) (by omega), List.getElem?_append_left (by rw [adcells_len]; omega)]
              have e2 : adcells R = adcells (R.take k) ++ adcells (R.drop k) := by rw [← adcells_append, List.take_append_drop]
              rw [e2, List.getElem?_append_right (by rw [adcells_len, List.length_take]; omega), adcells_len, List.length_take, ← hu]
              congr 1
              omega
            have hcap : (k + 1) * 13 + (adcells (R.drop k)).length ≤ cur.toList.length := by
              rw [adcells_len, List.length_drop, show cur.toList.length = cur.size from Array.length_toList, hcs]; omega
            have HTK := Lib.hid htk
            have HB2 := Lib.hid hb2
            have hsz2 := hb2.size
            clear hown2 htk hb2 HBX hown
            have hwr : IntKind.i64.wrap ((k : Int) + 1) = (k : Int) + 1 := by
              simp only [IntKind.wrap, IntKind.bits, IntKind.signed]
              simp
              omega
            have hi3 : (k : Int) ≤ (R.length : Int) + 1 := by omega
            have hi0 : (0 : Int) ≤ (k : Int) + 1 := by omega
            have hne : ¬ c2 = k := by omega
            go_upto_region 10 with fail
            go_cut [] (fun wx => Hid (wx.heap[g2]? = some (.cells (splice cur.toList ((k + 1) * 13) (adcells (R.drop k))).toArray 36 (0, 0))) ∧ Hid (Below w.heap.size w wx) ∧ Hid (w2.grownBy wx (some g2)))
            case first =>
              by_cases hck : c2 = k + 1
              · subst hck
                obtain rfl : k = R.length := by omega
                have hpos : ¬ 0 < (adcells (R.drop R.length)).length := by simp [adcells]
                go_region_law (refine step_copy_G rfl (.tmp 53) (.tmp 56) 32 32 rfl 36 Try.underlying32 13 (by decide) (by kernel_rfl) (some ⟨g2, 0, none⟩) (some ⟨g2, R.length * 13, none⟩) 0 0 1 1 (by go_simp) (by go_simp) g2 ((R.length + 1) * 13) cur.toList 36 hg2 (adcells (R.drop R.length)) (by simp [adcells]) (fun h => absurd h hpos) hcap (adcells_oneH _) (w0 := w2) ⟨rfl, rfl, rfl, Nat.le_refl _, fun _ _ _ => rfl⟩ ?_; intro w4 hg4 hq4)
                all_goals (go_wp2_with fail; go_meet; exact ⟨hg4, below_turned HB2.out hq4 hsz2 hbg, hq4⟩)
              · go_region_law (refine step_copy_G rfl (.tmp 53) (.tmp 56) 32 32 rfl 36 Try.underlying32 13 (by decide) (by kernel_rfl) (some ⟨g2, (k + 1) * 13, none⟩) (some ⟨g2, k * 13, none⟩) (R.length - k) (c2 - (k + 1)) (R.length + 1 - k) (c2 - k) (by go_simp) (by go_simp) g2 ((k + 1) * 13) cur.toList 36 hg2 (adcells (R.drop k)) (by rw [adcells_len, List.length_drop, show Nat.min (R.length + 1 - k) (R.length - k) = R.length - k from Nat.min_eq_right (by omega)]) (fun _ => ⟨rfl, _, rfl, hsrc⟩) hcap (adcells_oneH _) (w0 := w2) ⟨rfl, rfl, rfl, Nat.le_refl _, fun _ _ _ => rfl⟩ ?_; intro w4 hg4 hq4)
                all_goals (go_wp2_with fail; go_meet; exact ⟨hg4, below_turned HB2.out hq4 hsz2 hbg, hq4⟩)
            case rest =>
              obtain ⟨hg4, hb4, hq4⟩ := hcut
              have hlen4 : (splice cur.toList ((k + 1) * 13) (adcells (R.drop k))).length = cur.toList.length := length_splice _ _ _ hcap
              have hcl : cur.toList.length = cur.size := Array.length_toList
              have hfit : ∀ y : AdX, k * 13 + y.enc.length ≤ (splice cur.toList ((k + 1) * 13) (adcells (R.drop k))).length := by intro y; rw [hlen4, hcl, hcs, ad_len]; omega
              obtain ⟨b, off, c', hv, _, hbB, hcell⟩ := (HL.out.below hb4.out).posAt (by omega)
              injection hv with hv1 _ hv3
              subst hv1 hv3
              have f0 : wc.cell? ⟨b, off + j * 13, none⟩ = some (.int .u32 x.v.a) := hcell j 0 _ (adcell HX.out rfl)
              have f1 : wc.cell? ⟨b, off + j * 13 + 1, none⟩ = some (.int .i64 x.v.m) := hcell j 1 _ (adcell HX.out rfl)
              have f2 : wc.cell? ⟨b, off + j * 13 + 2, none⟩ = some (.int .u32 x.v.ho) := hcell j 2 _ (adcell HX.out rfl)
              have f3 : wc.cell? ⟨b, off + j * 13 + 3, none⟩ = some (.int .i64 x.v.pf) := hcell j 3 _ (adcell HX.out rfl)
              have f4 : wc.cell? ⟨b, off + j * 13 + 4, none⟩ = some (.int .i64 x.v.me) := hcell j 4 _ (adcell HX.out rfl)
              have f5 : wc.cell? ⟨b, off + j * 13 + 5, none⟩ = some x.p := hcell j 5 _ (adcell HX.out rfl)
              have f6 : wc.cell? ⟨b, off + j * 13 + 6, none⟩ = some x.o := hcell j 6 _ (adcell HX.out rfl)
              have f7 : wc.cell? ⟨b, off + j * 13 + 7, none⟩ = some (.int .u32 x.v.pe) := hcell j 7 _ (adcell HX.out rfl)
              have f8 : wc.cell? ⟨b, off + j * 13 + 8, none⟩ = some (.int .u32 x.v.id) := hcell j 8 _ (adcell HX.out rfl)
              have f9 : wc.cell? ⟨b, off + j * 13 + 9, none⟩ = some (.bool x.v.ex) := hcell j 9 _ (adcell HX.out rfl)
              have f10 : wc.cell? ⟨b, off + j * 13 + 10, none⟩ = some (.int .u32 x.v.og) := hcell j 10 _ (adcell HX.out rfl)
              have f11 : wc.cell? ⟨b, off + j * 13 + 11, none⟩ = some x.l := hcell j 11 _ (adcell HX.out rfl)
              have f12 : wc.cell? ⟨b, off + j * 13 + 12, none⟩ = some (.int .i64 x.v.ss) := hcell j 12 _ (adcell HX.out rfl)
              clear hcell
              have hi5 : (k : Int) < (R.length : Int) + 1 := by omega
              have hgc := lt_of_block hg4.out
              have hszc := hb4.out.size
              have HXO := Lib.hid (HXM.out.1.next hb4.out)
              go_wp2_with fail
              refine (refTwinX x wc HXO.out HXM.out.2).mono ?_
              rintro e w6 ⟨y, hyv, rfl, hyok, hyf, hb6⟩
              have HG6 : Hid (w6.heap[g2]? = _) := (hb6.block g2 hgc).trans hg4.out
              have HY6 : Hid (AdG w6 (some g2) w.heap.size y) := ⟨hyok, fun q hq => by injection hq with hq; subst hq; exact hyf _ hgc, fun q hq => hyf q (by omega)⟩
              have HR6 : Hid (∀ z ∈ R, AdG w6 (some g2) w.heap.size z) := fun z hz => ((HA2.out z hz).grown hq4.out).next hb6
              have HB6 : Hid (Below w.heap.size w w6) := hb4.out.trans (hb6.mono hszc)
              have hsz6 := HB6.out.size
              have hf6 := hfit y
              have hI6 := HI.out y hyv
              have HI6 := Lib.hid hI6
              clear hyok hyf hb6 hfit HA2 HI hI6 hq4 hb4 hg4 HXO f0 f1 f2 f3 f4 f5 f6 f7 f8 f9 f10 f11 f12
              go_wp2_with (refine wpList_store_G rfl _ _ 36 rfl 13 Try.sizeOf36 g2 (k * 13) rfl (.agg y.enc.toArray) rfl _ 36 HG6.out y.enc rfl rfl hf6 (aenc_one y) ?_; intro w5 hg5 hq5)
              have hput := put_cells13 y hk _ rfl HTK.out
              have hlen5 : (splice (splice cur.toList ((k + 1) * 13) (adcells (R.drop k))) (k * 13) y.enc).length = cur.toList.length := by rw [length_splice _ _ _ hf6, hlen4]
              have own5 := owns_of_block (size := 13) (n := R.length + 1) (xs := adcells (R.take k ++ y :: R.drop k)) hg5.out hc2 hcm (by rw [List.size_toArray, hlen5, hcl, hcs]) (by simpa using hput) (by rw [adcells_len, ins_lenA hk]) hbg
              have hil := ins_lenA (x := y) hk
              refine ⟨⟨j + 1, R.take k ++ y :: R.drop k, by go_num, by omega, HI6, by omega, ?_, below_turned HB6.out hq5 hsz6 hbg, ?_⟩, by simp only [intOf]; omega⟩
              · rw [hil]
                exact own5
              · intro z hz
                rcases List.mem_append.1 hz with hz | hz
                · exact (HR6.out z (List.mem_of_mem_take hz)).grown hq5
                · rcases List.mem_cons.1 hz with rfl | hz
                  · exact HY6.out.grown hq5
                  · exact (HR6.out z (List.mem_of_mem_drop hz)).grown hq5
    · obtain rfl : j = L.length := by omega
      have hI : ¬ (L.length : Int) < (L.length : Int) := by omega
      have hS : SortedA (L.map AdX.v) (R.map AdX.v) := by have := HS.out; rwa [List.take_length] at this
      obtain ⟨A0, c0, rfl, hA0⟩ := owns_form HO.out
      go_wp2
      go_ret
      exact ⟨_, R, rfl, hS, hRj, HO.out, HAR.out, HB.out⟩
end Go.Proofs.Ytbanbommgcjmjaa

/-
  A region that draws its order, walked in the order of the text: the class of worlds is any that the prover names. No program in sight.
-/
namespace Go.Proofs.Ytbanbommgcjmjaa
open Go Go.RowKit Go.Sort

section
variable {P : Program} {ops : Array Oper} {Q : Exit → Act → World → Prop}
/-- The worlds that meet S. -/
structure InW (S : World → Prop) where
  w : World
  h : S w
@[reducible] def InS (S : World → Prop) : World → Prop := fun w' => ∃ p : InW S, w' = p.w
end
end Go.Proofs.Ytbanbommgcjmjaa

/-
  A region that draws its order, walked in the order of the text, with a tail of barriers behind which nothing floats: there the class of worlds is not asked. No program in sight.
-/
namespace Go.Proofs.Ytbanbommgcjmjaa
open Go Go.RowKit Go.Sort

section
variable {P : Program} {ops : Array Oper} {md : Region.Mode} {S : World → Prop} {Q : Exit → Act → World → Prop} {n : Nat}
/-- Whatever order is picked from here on; behind the operations ahead of the tail S holds. -/
def wpAnyT (P : Program) (md : Region.Mode) (ops : Array Oper) (Q : Exit → Act → World → Prop) (S : World → Prop) (n : Nat) : Nat → Array Bool → Act → World → Prop
  | 0, listed, a, w => Region.ready md ops listed = [] ∧ Q .normal a w
  | fuel + 1, listed, a, w =>
    (Region.ready md ops listed = [] → Q .normal a w) ∧
    ∀ i ∈ Region.ready md ops listed, wpOp P ops Q i (fun a' w' => (i < n → S w') ∧ wpAnyT P md ops Q S n fuel (listed.setIfInBounds i true) a' w') a w
theorem wpAny_of_T : ∀ (fuel : Nat) (listed : Array Bool) (a : Act) (w : World), wpAnyT P md ops Q S n fuel listed a w → wpAny P md ops Q fuel listed a w
  | 0, _, _, _, h => h
  | fuel + 1, _, _, _, h => ⟨h.1, fun i hi => wpOp_mono (fun a' w' h' => wpAny_of_T fuel _ a' w' h'.2) (h.2 i hi)⟩
theorem wpAnyT_first {i : Nat} {oi : Oper} {v : Value} (hi : ops[i]? = some oi) (hsel : ∀ (j : Nat) (o : Oper) cs b, ops[j]? = some o → o.op ≠ .select cs b)
    (hs : Region.sinkB md ops n = true) (hc : Region.chainB md ops n = true) (hn : n < ops.size) (hin : i < n)
    (hQ : ∀ c a w, Q (.panic c) (a.put oi.dst v) w → Q (.panic c) a w) :
    ∀ (fuel : Nat) (listed : Array Bool) (a : Act) (w : World), HeadInv md ops n listed →
      (∀ j oj, ops[j]? = some oj → j ≠ i → listed.getD j true = false → (∀ e ∈ oj.after, Region.binds md e = true → e.on ≠ i) → oi.apart ops oj = true) →
      i ∈ Region.ready md ops listed → YieldsIf P ops S oi v a → S w →
      wpAnyT P md ops Q S n fuel (listed.setIfInBounds i true) (a.put oi.dst v) w → wpAnyT P md ops Q S n (fuel + 1) listed a w := by
  intro fuel
  induction fuel with
  | zero =>
    intro listed a w _ _ hr hy hS H
    refine ⟨fun h => (by rw [h] at hr; cases hr), fun j hj => ?_⟩
    by_cases hji : j = i
    · subst hji; exact hy.wpOp hi hS ⟨fun _ => hS, H⟩
    · have := ready_mono hj hji
      rw [H.1] at this
      cases this
  | succ fuel ih =>
    intro listed a w inv hfree hr hy hS H
    have hun := (mem_ready.1 hr).1
    refine ⟨fun h => (by rw [h] at hr; cases hr), fun j hj => ?_⟩
    have hjn : j < n := (Nat.lt_or_ge j n).elim id fun h => absurd hj (tail_waits hs hc hn inv _ i rfl hin hun j h)
    by_cases hji : j = i
    · subst hji; exact hy.wpOp hi hS ⟨fun _ => hS, H⟩
    · have h1 := H.2 j (ready_mono hj hji)
      obtain ⟨hjun, oj, hoj, hall⟩ := mem_ready.1 hj
      have hnot : ∀ e ∈ oj.after, Region.binds md e = true → e.on ≠ i := fun e he hb heq => by
        have h1 := hall e he hb
        rw [heq, getD_both hun] at h1
        cases h1
      have h2 := wpOp_putIf hoj (hfree j oj hoj hji hjun hnot) (fun cs b => hsel i oi cs b hi) (fun cs b => hsel j oj cs b hoj) hQ hy h1
      have hfree' : ∀ k ok, ops[k]? = some ok → k ≠ i → (listed.setIfInBounds j true).getD k true = false →
          (∀ e ∈ ok.after, Region.binds md e = true → e.on ≠ i) → oi.apart ops ok = true := fun k ok hk hki hun hno => by
        refine hfree k ok hk hki ?_ hno
        by_cases hjk : j = k
        · subst hjk; exact hjun
        · rw [getD_set_ne true hjk] at hun; exact hun
      refine wpOp_mono (fun a' w' h3 => ⟨fun _ => h3.2.1 hjn, ih (listed.setIfInBounds j true) a' w' (inv.set hj hjn) hfree' (ready_mono hr (Ne.symm hji)) h3.1 (h3.2.1 hjn) ?_⟩) h2
      rw [Array.setIfInBounds_comm _ _ hji]
      exact h3.2.2
/-- The walk. -/
def mixT (P : Program) (ops : Array Oper) (Q : Exit → Act → World → Prop) (n : Nat) (S : World → Prop) : List (Nat × Bool) → Act → World → Prop
  | [], a, w => Q .normal a w
  | (k, false) :: m, a, w => ∃ o, ops[k]? = some o ∧ if Region.wanted o (yielded ops a.tmps) then o.quiet P a S (fun a' => mixT P ops Q n S m a' w) else mixT P ops Q n S m (a.put o.dst undef) w
  | (k, true) :: m, a, w => ∃ o, ops[k]? = some o ∧ if Region.wanted o (yielded ops a.tmps) then o.wp P a w (fun a' w' => (k < n → S w') ∧ mixT P ops Q n S m a' w') Q else mixT P ops Q n S m (a.put o.dst undef) w
/-- Nothing floats behind the first operation of the tail. -/
def headB (n : Nat) : List (Nat × Bool) → Bool
  | [] => true
  | (k, b) :: m => (decide (k < n) || (b && m.all (fun e => decide (n ≤ e.1)))) && headB n m
/-- Somebody of the head is still to come. -/
def Some0 (n : Nat) (m : List (Nat × Bool)) : Prop := ∃ e ∈ m, e.1 < n
theorem mixT_sound (hsel : Region.noSelect ops = true) (hs : Region.sinkB md ops n = true) (hc : Region.chainB md ops n = true) (hn : n < ops.size) (hQ : ∀ d v c a w, Q (.panic c) (Act.put a d v) w → Q (.panic c) a w) :
    ∀ (m : List (Nat × Bool)) (listed : Array Bool) (a : Act) (w : World), mixB md ops m listed = true → headB n m = true → (Some0 n m → HeadInv md ops n listed ∧ S w) → mixT P ops Q n S m a w → wpAnyT P md ops Q S n m.length listed a w := by
  intro m
  induction m with
  | nil =>
    intro listed a w hB _ _ h
    exact ⟨by simpa [mixB] using hB, h⟩
  | cons b m ih =>
    intro listed a w hB hH hI h
    obtain ⟨k, b⟩ := b
    simp only [headB, Bool.and_eq_true, Bool.or_eq_true, decide_eq_true_eq] at hH
    obtain ⟨hk, hH⟩ := hH
    have hkm : Some0 n m → k < n := by
      rintro ⟨e, he, hen⟩
      refine hk.elim id fun h2 => ?_
      have := List.all_eq_true.1 h2.2 e he
      simp only [decide_eq_true_eq] at this
      omega
    cases b with
    | false =>
      have hkn : k < n := hk.elim id fun e => by simp at e
      obtain ⟨inv, hS⟩ := hI ⟨_, List.mem_cons_self .., hkn⟩
      simp only [mixT] at h
      obtain ⟨o, h0, h⟩ := h
      simp only [mixB, Bool.and_eq_true, h0] at hB
      obtain ⟨⟨⟨hr, hf⟩, hp⟩, hB'⟩ := hB
      have hr' : k ∈ Region.ready md ops listed := by simpa using hr
      by_cases hw : Region.wanted o (yielded ops a.tmps) = true
      · rw [if_pos hw] at h
        obtain ⟨v, hv, hK⟩ := yields_quiet hp h
        exact wpAnyT_first h0 (Region.noSelect_spec hsel) hs hc hn hkn (fun c a w => hQ o.dst v c a w) _ listed a w inv (Region.free_spec h0 hf) hr' (.inl ⟨hw, hv⟩) hS (ih _ _ w hB' hH (fun _ => ⟨inv.set hr' hkn, hS⟩) hK)
      · rw [if_neg hw] at h
        exact wpAnyT_first h0 (Region.noSelect_spec hsel) hs hc hn hkn (fun c a w => hQ o.dst undef c a w) _ listed a w inv (Region.free_spec h0 hf) hr' (.inr ⟨by simpa using hw, rfl⟩) hS (ih _ _ w hB' hH (fun _ => ⟨inv.set hr' hkn, hS⟩) h)
    | true =>
      simp only [mixT] at h
      obtain ⟨o, h0, h⟩ := h
      simp only [mixB, Bool.and_eq_true, decide_eq_true_eq] at hB
      obtain ⟨hr, hB'⟩ := hB
      have hr' : k ∈ Region.ready md ops listed := by rw [hr]; exact List.mem_cons_self ..
      have hI0 : k < n → HeadInv md ops n listed ∧ S w := fun hkn => hI ⟨_, List.mem_cons_self .., hkn⟩
      have hI' : ∀ w', (k < n → S w') → Some0 n m → HeadInv md ops n (listed.setIfInBounds k true) ∧ S w' :=
        fun w' hS' hx => ⟨(hI0 (hkm hx)).1.set hr' (hkm hx), hS' (hkm hx)⟩
      refine ⟨fun h1 => (by rw [hr] at h1; cases h1), fun i hi => ?_⟩
      obtain rfl : i = k := by rw [hr] at hi; simpa using hi
      unfold wpOp
      simp only [h0]
      by_cases hw : Region.wanted o (yielded ops a.tmps) = true
      · rw [if_pos hw] at h ⊢
        exact .inl (Oper.wp_mono (fun a' w' hh => ⟨hh.1, ih _ a' w' hB' hH (hI' w' hh.1) hh.2⟩) h)
      · rw [if_neg hw] at h ⊢
        exact ⟨fun hkn => (hI0 hkn).2, ih _ _ w hB' hH (hI' w fun hkn => (hI0 hkn).2) h⟩
/-- Some plain operations in a row, as a quiet walk. -/
theorem mixT_seg {m : List (Nat × Bool)} : ∀ (ks : List Nat) (seg : List Oper) (a : Act) (w : World), ks.map (fun k => ops[k]?) = seg.map some → wpQuiet P ops S (fun a' => mixT P ops Q n S m a' w) seg a → mixT P ops Q n S (ks.map (fun k => (k, false)) ++ m) a w
  | [], [], _, _, _, h => h
  | [], _ :: _, _, _, hk, _ => by cases hk
  | _ :: _, [], _, _, hk, _ => by cases hk
  | k :: ks, o :: seg, a, w, hk, h => by
    simp only [List.map_cons] at hk
    injection hk with hk1 hk2
    have h' : (if Region.wanted o (yielded ops a.tmps) then o.quiet P a S (wpQuiet P ops S (fun a' => mixT P ops Q n S m a' w) seg) else wpQuiet P ops S (fun a' => mixT P ops Q n S m a' w) seg (a.put o.dst undef)) := h
    show ∃ o, ops[k]? = some o ∧ (if Region.wanted o (yielded ops a.tmps) then o.quiet P a S (fun a' => mixT P ops Q n S (ks.map (fun k => (k, false)) ++ m) a' w) else mixT P ops Q n S (ks.map (fun k => (k, false)) ++ m) (a.put o.dst undef) w)
    refine ⟨o, hk1, ?_⟩
    split
    · rename_i hw
      rw [if_pos hw] at h'
      exact Oper.quiet_mono (fun a' hh => mixT_seg ks seg a' w hk2 hh) h'
    · rename_i hw
      rw [if_neg hw] at h'
      exact mixT_seg ks seg _ w hk2 h'
theorem mixT_take {m m' : List (Nat × Bool)} {a : Act} {w : World} (ks : List Nat) (seg : List Oper) (hm : m = ks.map (fun k => (k, false)) ++ m') (hs : ks.map (fun k => ops[k]?) = seg.map some) (h : wpQuiet P ops S (fun a' => mixT P ops Q n S m' a' w) seg a) : mixT P ops Q n S m a w := by
  rw [hm]
  exact mixT_seg ks seg a w hs h
/-- A barrier ahead of the tail. -/
theorem mixT_bar {m : List (Nat × Bool)} {k : Nat} {o : Oper} {a : Act} {w : World} (ho : ops[k]? = some o) (hw : Region.wanted o (yielded ops a.tmps) = true) (h : o.wp P a w (fun a' w' => S w' ∧ mixT P ops Q n S m a' w') Q) : mixT P ops Q n S ((k, true) :: m) a w := by
  simp only [mixT]
  refine ⟨o, ho, ?_⟩
  rw [if_pos hw]
  exact Oper.wp_mono (fun a' w' hh => ⟨fun _ => hh.1, hh.2⟩) h
/-- One of the tail. -/
theorem mixT_tail {m : List (Nat × Bool)} {k : Nat} {o : Oper} {a : Act} {w : World} (ho : ops[k]? = some o) (hw : Region.wanted o (yielded ops a.tmps) = true) (hk : n ≤ k) (h : o.wp P a w (fun a' w' => mixT P ops Q n S m a' w') Q) : mixT P ops Q n S ((k, true) :: m) a w := by
  simp only [mixT]
  refine ⟨o, ho, ?_⟩
  rw [if_pos hw]
  exact Oper.wp_mono (fun a' w' hh => ⟨fun hkn => absurd hkn (by omega), hh⟩) h
theorem mixT_end {a : Act} {w : World} (h : Q .normal a w) : mixT P ops (NoPanic Q) n S [] a w := h
def mixTOk (n : Nat) (l : List Oper) (m : List (Nat × Bool)) : Bool :=
  Region.noSelect l.toArray && decide (m.length = l.length) && mixB .any l.toArray m (Array.replicate l.toArray.size false) && headB n m && Region.sinkB .any l.toArray n && Region.chainB .any l.toArray n && decide (n < l.toArray.size)
theorem wp_region_mixTS {id : Nat} {a : Act} {w : World} {l : List Oper} (S : World → Prop) (n : Nat) (m : List (Nat × Bool)) (hm : P.follows .mixedOrders = true) (hB : mixTOk n l m = true) (hS : S { w with drawn := w.drawn + 1 })
    (h : mixT P l.toArray (NoPanic Q) n S m a { w with drawn := w.drawn + 1 }) : (Code.region id l.toArray true).wp P Q a w := by
  simp only [mixTOk, Bool.and_eq_true, decide_eq_true_eq] at hB
  obtain ⟨⟨⟨⟨⟨⟨hsel, hlen⟩, hmix⟩, hH⟩, hs⟩, hc⟩, hn⟩ := hB
  refine wp_region_noPanic (wp_region_any hm ?_)
  have inv0 : HeadInv .any l.toArray n (Array.replicate l.toArray.size false) :=
    ⟨by simp, fun j oj _ hl => (by rw [getD_replicate_false] at hl; cases hl), fun t _ ht => getD_in (by simpa using ht) (getD_replicate_false _ _)⟩
  have H := mixT_sound (md := .any) hsel hs hc hn (fun d v c a w hh => hh) m (Array.replicate l.toArray.size false) a { w with drawn := w.drawn + 1 } hmix hH (fun _ => ⟨inv0, hS⟩) h
  have H2 := wpAny_of_T _ _ _ _ H
  rw [hlen] at H2
  simpa using H2
/-- The same at the worlds that are drawn and grown. -/
theorem wp_region_mixT {id : Nat} {a : Act} {w : World} {l : List Oper} (n : Nat) (m : List (Nat × Bool)) (hm : P.follows .mixedOrders = true) (hB : mixTOk n l m = true)
    (h : mixT P l.toArray (NoPanic Q) n (fun w' => ∃ p : Regrown, w' = grow (redrawn w p.d) p.os) m a { w with drawn := w.drawn + 1 }) : (Code.region id l.toArray true).wp P Q a w :=
  wp_region_mixTS _ n m hm hB ⟨⟨w.drawn + 1, #[]⟩, by rw [grow_empty]; rfl⟩ h
end
end Go.Proofs.Ytbanbommgcjmjaa

/-
  Rows of different types lie apart; adverts whose lists are rows of the owner's; no program.
-/
namespace Go.Proofs.Ytbanbommgcjmjaa
open Go Go.RowKit Go.Lib Go.Sort

theorem grown_setCell (w : World) (g i : Nat) (u : Value) : w.grownBy (w.setCell ⟨g, i, none⟩ u) (some g) :=
  ⟨rfl, rfl, rfl, by simp [World.setCell], fun k _ hk => Below.heap_setCell w ⟨g, i, none⟩ u k (fun e => hk (by rw [e]))⟩
/-- A list that has just been made: it reads as numbers, and lies in no block below s. -/
def NewL (t : TypeId) (W : World) (s : Nat) (l : List Int) (v : Value) : Prop := (Rd W W.heap.size 1 v l.length (l.map (Value.int .u32)) ∧ ∀ k, k < s → FarV0 k v) ∧ W.ownsRow s t 1 v l.length (l.map (Value.int .u32))
theorem own_low {W : World} {s base n : Nat} {t : TypeId} {v : Value} {xs : List Value} (h : W.ownsRow base t 1 v n xs) (hs : s ≤ base) : W.ownsRow s t 1 v n xs :=
  ⟨h.1, h.2.imp id fun ⟨g, cap, cur, h1, h2, h3⟩ => ⟨g, cap, cur, h1, Nat.le_trans hs h2, h3⟩⟩
/-- Rows of different types lie apart. -/
theorem own_apart {W : World} {b1 b2 k1 k2 n m : Nat} {t u : TypeId} {v r : Value} {xs ys : List Value} (h : W.ownsRow b1 t k1 v n xs) (h2 : W.ownsRow b2 u k2 r m ys) (ht : t ≠ u) : v.ownBlock = none ∨ v.ownBlock ≠ r.ownBlock := by
  rcases h.2 with ⟨rfl, _⟩ | ⟨g, cap, cur, rfl, _, hg, _⟩
  · exact .inl rfl
  · refine .inr fun e => ?_
    rcases h2.2 with ⟨rfl, _⟩ | ⟨g', cap', cur', rfl, _, hg', _⟩
    · cases e
    · injection e with e
      dsimp only at e
      subst e
      rw [hg] at hg'
      injection hg' with hg'
      injection hg' with _ h3 _
      exact ht h3
/-- An advert's lists are rows of the owner's, in blocks from s on. -/
def AdOwn (s : Nat) (W : World) (y : AdX) : Prop := (∃ xs, W.ownsRow s 23 1 y.p y.v.pa.length xs) ∧ (∃ xs, W.ownsRow s 23 1 y.o y.v.co.length xs) ∧ ∃ xs, W.ownsRow s 24 1 y.l y.v.cl.length xs
theorem AdOwn.next {W W' : World} {s : Nat} {y : AdX} (h : AdOwn s W y) (hb : Below W.heap.size W W') : AdOwn s W' y :=
  ⟨h.1.imp fun _ e => owns_kept_none e (only_of_below hb none), h.2.1.imp fun _ e => owns_kept_none e (only_of_below hb none), h.2.2.imp fun _ e => owns_kept_none e (only_of_below hb none)⟩
theorem AdOwn.turned {W W' : World} {s base n : Nat} {r : Value} {ys : List Value} {y : AdX} (h : AdOwn s W y) (ho : W.ownsRow base 36 13 r n ys) (hg : W.grownBy W' r.ownBlock) : AdOwn s W' y :=
  ⟨h.1.imp fun _ e => e.kept hg (own_apart e ho (by decide)), h.2.1.imp fun _ e => e.kept hg (own_apart e ho (by decide)), h.2.2.imp fun _ e => e.kept hg (own_apart e ho (by decide))⟩
/-- What the program's SortAdverts hands back: the lists of its adverts are rows of its own. -/
def SortResO (L : List AdX) (w : World) (e : Ending) (w' : World) : Prop :=
  ∃ v S, e = .returned v ∧ SortedA (L.map AdX.v) (S.map AdX.v) ∧ S.length ≤ L.length ∧ w'.ownsRow w.heap.size 36 13 v S.length (adcells S) ∧ (∀ y ∈ S, AdG w' v.ownBlock w.heap.size y) ∧ Below w.heap.size w w' ∧ ∀ y ∈ S, AdOwn w.heap.size w' y
theorem NewL.next {W W' : World} {s : Nat} {l : List Int} {t : TypeId} {v : Value} (h : NewL t W s l v) (hb : Below W.heap.size W W') : NewL t W' s l v := ⟨⟨(h.1.1.below hb).mono hb.size, h.1.2⟩, owns_kept_none h.2 (only_of_below hb none)⟩
theorem NewL.own {V : World} {s base : Nat} {l : List Int} {v : Value} {t : TypeId} (h : V.ownsRow base t 1 v l.length (l.map (Value.int .u32))) (hs : s ≤ base) : NewL t V s l v := ⟨⟨Rd.of_own h, fun _ hk => (far_ownW h (Nat.lt_of_lt_of_le hk hs)).far0⟩, own_low h hs⟩
theorem NewL.setA {W : World} {s g i : Nat} {l : List Int} {t : TypeId} {v u : Value} (h : NewL t W s l v) (hg : g < s) : NewL t (W.setCell ⟨g, i, none⟩ u) s l v :=
  ⟨⟨(h.1.1.turned (Nat.le_refl _) (grown_setCell W g i u) (fun k hk => by injection hk with hk; subst hk; exact h.1.2 _ hg)).mono (grown_setCell W g i u).size, h.1.2⟩, h.2.kept (grown_setCell W g i u) (by
    cases hv : v.ownBlock with
    | none => exact .inl rfl
    | some b =>
      refine .inr fun e => ?_
      injection e with e
      have := (h.2.lt b hv).1
      omega)⟩
end Go.Proofs.Ytbanbommgcjmjaa
