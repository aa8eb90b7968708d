/-
  Joined texts: Fx4, Filt5, Filt6.
-/
import Derived.Test.YtakkgamhceignaaGreatDoorMFilterTexts11
import Derived.Test.YtakkgamhceignaaGreatDoorMFilterTexts10
import Derived.Test.YtakkgamhceignaaGreatDoorMFilterTexts5
/-
  The document's Parse of a rule (written by wip/gen/genfx4.py).
-/
namespace Go.Proofs.YtakkgamhceignaaGreatDoor
open Go Go.RowKit Go.Lib Go.Sort

def QInv (c0 : UInt8) (l : List UInt8) (k f : Nat) (L : List ByteArray) : Prop :=
  (k ≤ l.length ∧ f ≤ k ∧ pieces c0 l = L.map (·.data.toList) ++ pieces c0 (l.drop f) ∧ c0 ∉ (l.drop f).take (k - f)) ∨ (k = l.length + 1 ∧ pieces c0 l = L.map (·.data.toList))
theorem qinv_start (c0 : UInt8) (l : List UInt8) : QInv c0 l 0 0 [] := Or.inl ⟨Nat.zero_le _, Nat.le_refl _, by simp, by simp⟩
theorem qinv_skip {c0 : UInt8} {l : List UInt8} {k f : Nat} {L : List ByteArray} {x : UInt8} (h : QInv c0 l k f L) (hk : l[k]? = some x) (hx : x ≠ c0) : QInv c0 l (k + 1) f L := by
  have hkl := (List.getElem?_eq_some_iff.1 hk).1
  rcases h with ⟨h1, h2, h3, h4⟩ | ⟨h1, _⟩
  · refine Or.inl ⟨by omega, by omega, h3, ?_⟩
    rw [show k + 1 - f = (k - f) + 1 by omega, List.take_add_one]
    have e : (l.drop f)[k - f]? = some x := by rw [List.getElem?_drop, show f + (k - f) = k by omega, hk]
    rw [e]
    intro h
    rcases List.mem_append.1 h with h | h
    · exact h4 h
    · simp at h; exact hx h.symm
  · omega
theorem drop_splitQ {c0 : UInt8} {l : List UInt8} {k f : Nat} (hf : f ≤ k) (hk : l[k]? = some c0) : l.drop f = (l.drop f).take (k - f) ++ c0 :: l.drop (k + 1) := by
  have hkl := (List.getElem?_eq_some_iff.1 hk).1
  have e : (l.drop f).drop (k - f) = c0 :: l.drop (k + 1) := by
    rw [List.drop_drop, show f + (k - f) = k by omega, List.drop_eq_getElem_cons hkl]
    congr 1
    exact Option.some.inj ((List.getElem?_eq_getElem hkl).symm.trans hk)
  rw [← e, List.take_append_drop]
theorem qinv_cut {c0 : UInt8} {l : List UInt8} {k f : Nat} {L : List ByteArray} {b : ByteArray} (h : QInv c0 l k f L) (hk : l[k]? = some c0) (hb : b.data.toList = (l.drop f).take (k - f)) : QInv c0 l (k + 1) (k + 1) (L ++ [b]) := by
  have hkl := (List.getElem?_eq_some_iff.1 hk).1
  rcases h with ⟨h1, h2, h3, h4⟩ | ⟨h1, _⟩
  · refine Or.inl ⟨by omega, Nat.le_refl _, ?_, by simp⟩
    rw [h3, drop_splitQ h2 hk, pieces_cons _ h4, List.map_append, List.append_assoc]
    simp [hb]
  · omega
theorem qinv_end {c0 : UInt8} {l : List UInt8} {f : Nat} {L : List ByteArray} {b : ByteArray} (h : QInv c0 l l.length f L) (hb : b.data.toList = (l.drop f).take (l.length - f)) : QInv c0 l (l.length + 1) (l.length + 1) (L ++ [b]) := by
  rcases h with ⟨h1, h2, h3, h4⟩ | ⟨h1, _⟩
  · refine Or.inr ⟨rfl, ?_⟩
    have e : (l.drop f).take (l.length - f) = l.drop f := List.take_of_length_le (by simp)
    rw [e] at h4 hb
    rw [h3, pieces_none h4, List.map_append]
    simp [hb]
  · omega
theorem qinv_done {c0 : UInt8} {l : List UInt8} {f : Nat} {L : List ByteArray} (h : QInv c0 l (l.length + 1) f L) : pieces c0 l = L.map (·.data.toList) := by
  rcases h with ⟨h1, _⟩ | ⟨_, h⟩
  · omega
  · exact h

theorem far2x {V : World} {g h i j k : Nat} {u v x : Value} (hne : g ≠ h) (c : V.cell? ⟨h, k, none⟩ = some x) : ((V.setCell ⟨g, i, none⟩ u).setCell ⟨g, j, none⟩ v).cell? ⟨h, k, none⟩ = some x :=
  (World.cell?_setCell_far _ ⟨g, j, none⟩ ⟨h, k, none⟩ v hne).trans ((World.cell?_setCell_far V ⟨g, i, none⟩ ⟨h, k, none⟩ u hne).trans c)
/-- The rule that the document reads of the words. -/
def candD (p0 p2 p3 p4 p5 : List UInt8) (pr : Int) (hpr : -9223372036854775808 ≤ pr ∧ pr ≤ 9223372036854775807) : RuleV := ⟨permR p0, pr, ppA p2, ppN p2, ppA p3, ppN p3, (portsD p4).1.1, (portsD p4).1.2, (portsD p5).1.1, (portsD p5).1.2, hpr, ppA_lt p2, ppA_lt p3, ⟨(portsD_lt p4).1, (portsD_lt p4).2.1⟩, ⟨(portsD_lt p4).2.2.1, (portsD_lt p4).2.2.2⟩, ⟨(portsD_lt p5).1, (portsD_lt p5).2.1⟩, ⟨(portsD_lt p5).2.2.1, (portsD_lt p5).2.2.2⟩⟩
theorem candD_O {l p0 p1 p2 p3 p4 p5 : List UInt8} {pr : Int} {hpr : -9223372036854775808 ≤ pr ∧ pr ≤ 9223372036854775807} (hp : pieces 32 l = [p0, p1, p2, p3, p4, p5]) (h1 : protoD p1 = some pr) :
    frO l = if ppE p2 = 0 ∧ ppE p3 = 0 ∧ (portsD p4).2 = true ∧ (portsD p5).2 = true ∧ mayB (candD p0 p2 p3 p4 p5 pr hpr) = true ∧ (candD p0 p2 p3 p4 p5 pr hpr).text = l then some (candD p0 p2 p3 p4 p5 pr hpr) else none :=
  frO_candD hp ⟨rfl, rfl, rfl, rfl, rfl⟩ h1 rfl rfl
set_option maxRecDepth 100000 in
set_option maxHeartbeats 4000000 in
theorem refFtParse_any (s : ByteArray) (w : World) (hlim : s.size < 4294967281) :
    Calls Tryz.prog 10 #[.string s] w fun e w' => e = .returned (.tuple #[(frV s.data.toList).agg, .int .i64 (frE s.data.toList)]) ∧ Below w.heap.size w w' := by
  obtain ⟨i0, hi, hz0, hz1, hz2⟩ := info_parts Tryz.infoStr
  have HS := Lib.hid (show s.size = s.data.toList.length from (Array.length_toList).symm)
  have t9 := Tryz.underlying9
  have HQ := Lib.hid (show ∀ (i : Nat) (h : i < s.size), Hid (s.data.toList[i]? = some (s[i]'h)) from fun i h => Lib.hid (by
    rw [Array.getElem?_toList]
    exact Array.getElem?_eq_getElem (xs := s.data) (i := i) h))
  have hk0 := heap_alloc_new w (ruleObj default)
  have hb0 : Below w.heap.size w (w.alloc (ruleObj default)) := below1 w (ruleObj default)
  have hW : w.alloc (.cells #[.bool false, .int .i64 0, .int .u32 0, .int .i64 0, .int .u32 0, .int .i64 0, .int .u32 0, .int .u32 0, .int .u32 0, .int .u32 0] 29) = w.alloc (ruleObj default) := rfl
  go_enter Tryz.func10, Tryz.ntmps10
  go_wp2
  try rw [hW]
  generalize w.alloc (ruleObj default) = W at *
  clear hW
  have hsz0 : w.heap.size < W.heap.size := lt_of_block hk0
  have HK := Lib.hid hk0
  clear hk0
  go_loopw [4, 5, 6] (fun v fr i wr => ∃ (k f : Nat) (L : List ByteArray), i = .int .i64 k ∧ fr = .int .i64 f ∧ wr.ownsRow W.heap.size 9 1 v L.length (L.map Value.string) ∧ Hid (QInv 32 s.data.toList k f L) ∧ f ≤ k ∧ k ≤ s.size + 1 ∧ L.length ≤ k ∧ Below W.heap.size W wr) (fun _ _ i _ => s.size + 1 - (intOf i).toNat)
  case atStart => exact ⟨0, 0, [], rfl, rfl, World.ownsRow_nil _ _ _ _, Lib.hid (qinv_start _ _), by omega, by omega, by simp, Below.refl _ _⟩
  case round =>
    obtain ⟨k, f, L, rfl, rfl, hown, hp, hf, hk, hLk, hb⟩ := hrel
    by_cases hlt : k < s.size
    · have hI3 : (k : Int) < (s.size : Int) := by omega
      have hI4 : (0 : Int) ≤ k := by omega
      have hI5 : (k : Int) ≤ (s.size : Int) := by omega
      have hI6 : ((k : Int) == (s.size : Int)) = false := by simp; omega
      have hx := HQ.out k hlt
      obtain ⟨v, hv⟩ : ∃ v : Int, ((s[k]'hlt).toNat : Int) = v := ⟨_, rfl⟩
      by_cases h32 : s[k]'hlt = 32
      · have hv2 : (v == 32) = true := by rw [← hv, h32]; rfl
        have hcut := Lib.hid (qinv_cut (b := s.extract f k) hp.out (by rw [hx.out, h32]) (by rw [Lib.extract_data]))
        clear h32 hx hp
        go_wp2_with (at_builtin; refine wpList_push rfl _ _ 76 rfl 9 i0 _ 1 16 Tryz.underlying76 hi hz0 hz1 hz2 rfl (by decide) (by decide) [.string (s.extract f k)] rfl rfl (by simp) hown rfl (one_str _) (by omega) hb.size hb (Nat.le_refl _) ?_; intro v2 w2 hown2 hb2)
        have hown3 : w2.ownsRow W.heap.size 9 1 v2 (L ++ [s.extract f k]).length ((L ++ [s.extract f k]).map Value.string) := by
          rw [List.length_append, List.map_append]; exact hown2
        clear hown2 hown
        go_wp2
        exact ⟨⟨k + 1, k + 1, L ++ [s.extract f k], by go_num, by go_num, hown3, hcut, by omega, by omega, by simp; omega, hb2⟩, by simp only [intOf]; omega⟩
      · have hv2 : (v == 32) = false := by
          simp
          intro h
          apply h32
          apply UInt8.toNat_inj.1
          have : (32 : UInt8).toNat = 32 := rfl
          omega
        have hskip := Lib.hid (qinv_skip hp.out hx.out h32)
        clear h32 hx hp
        go_wp2
        exact ⟨⟨k + 1, f, L, by go_num, rfl, hown, hskip, by omega, by omega, by omega, hb⟩, by simp only [intOf]; omega⟩
    · by_cases heq : k = s.size
      · subst heq
        have hI5 : (s.size : Int) ≤ (s.size : Int) := by omega
        have hI6 : ((s.size : Int) == (s.size : Int)) = true := by simp
        have hcut := Lib.hid (qinv_end (b := s.extract f s.size) (by have h := hp.out; rw [HS.out] at h; exact h) (by rw [Lib.extract_data, HS.out]))
        have hcut2 : Hid (QInv 32 s.data.toList (s.size + 1) (s.size + 1) (L ++ [s.extract f s.size])) := Lib.hid (by have h := hcut.out; rw [← HS.out] at h; exact h)
        clear hcut hp hlt
        go_wp2_with (at_builtin; refine wpList_push rfl _ _ 76 rfl 9 i0 _ 1 16 Tryz.underlying76 hi hz0 hz1 hz2 rfl (by decide) (by decide) [.string (s.extract f s.size)] rfl rfl (by simp) hown rfl (one_str _) (by omega) hb.size hb (Nat.le_refl _) ?_; intro v2 w2 hown2 hb2)
        have hown3 : w2.ownsRow W.heap.size 9 1 v2 (L ++ [s.extract f s.size]).length ((L ++ [s.extract f s.size]).map Value.string) := by
          rw [List.length_append, List.map_append]; exact hown2
        clear hown2 hown
        go_wp2
        exact ⟨⟨s.size + 1, s.size + 1, L ++ [s.extract f s.size], by go_num, by go_num, hown3, hcut2, by omega, by omega, by simp; omega, hb2⟩, by simp only [intOf]; omega⟩
      · obtain rfl : k = s.size + 1 := by omega
        have hI5 : ¬ ((s.size + 1 : Nat) : Int) ≤ (s.size : Int) := by omega
        have hP := Lib.hid (qinv_done (by have h := hp.out; rw [HS.out] at h; exact h) : pieces 32 s.data.toList = L.map (·.data.toList))
        have hrd := Rd.of_own hown
        clear hp hlt heq
        obtain ⟨A, c, rfl, hcap⟩ := hrd.form
        have hb1 : Below w.heap.size w wr := hb0.trans (hb.mono hb0.size)
        have hk1 := (hb.block _ hsz0).trans HK.out
        by_cases h6 : L.length = 6
        · obtain ⟨x0, x1, x2, x3, x4, x5, hL⟩ := six h6
          have HP := Lib.hid (show pieces 32 s.data.toList = [x0.data.toList, x1.data.toList, x2.data.toList, x3.data.toList, x4.data.toList, x5.data.toList] by rw [hP.out, hL]; rfl)
          obtain ⟨b, off, c', hv, _, hbB, hcell⟩ := hrd.pos (by omega)
          injection hv with hv1 _ hv3
          subst hv1 hv3
          have HC := Lib.hid (show ∀ (j : Nat) (x : ByteArray), L[j]? = some x → wr.cell? ⟨b, off + j, none⟩ = some (.string x) from fun j x hx => hcell j _ (by rw [List.getElem?_map, hx]; rfl))
          have s0 : wr.cell? ⟨b, off, none⟩ = some (.string x0) := HC.out 0 x0 (by rw [hL]; rfl)
          have s1 : wr.cell? ⟨b, off + 1, none⟩ = some (.string x1) := HC.out 1 x1 (by rw [hL]; rfl)
          have s2 : wr.cell? ⟨b, off + 2, none⟩ = some (.string x2) := HC.out 2 x2 (by rw [hL]; rfl)
          have s3 : wr.cell? ⟨b, off + 3, none⟩ = some (.string x3) := HC.out 3 x3 (by rw [hL]; rfl)
          have s4 : wr.cell? ⟨b, off + 4, none⟩ = some (.string x4) := HC.out 4 x4 (by rw [hL]; rfl)
          have s5 : wr.cell? ⟨b, off + 5, none⟩ = some (.string x5) := HC.out 5 x5 (by rw [hL]; rfl)
          have hl : ∀ x ∈ L, x.size < 4294967281 := by
            intro x hx
            have h1 : x.data.toList ∈ pieces 32 s.data.toList := by
              rw [hP.out]
              exact List.mem_map.2 ⟨x, hx, rfl⟩
            have h2 := pieces_len 32 _ _ h1
            have e1 : s.data.toList.length = s.size := Array.length_toList
            have e2 : x.data.toList.length = x.size := Array.length_toList
            omega
          have l1 := hl x1 (by rw [hL]; simp)
          have l2 := hl x2 (by rw [hL]; simp)
          have l3 := hl x3 (by rw [hL]; simp)
          have l4 := hl x4 (by rw [hL]; simp)
          have l5 := hl x5 (by rw [hL]; simp)
          have hd : ((L.length : Int) != 6) = false := by simp; omega
          have i0x : (0 : Int) < (L.length : Int) := by omega
          have i1x : (1 : Int) < (L.length : Int) := by omega
          have i2x : (2 : Int) < (L.length : Int) := by omega
          have i3x : (3 : Int) < (L.length : Int) := by omega
          have i4x : (4 : Int) < (L.length : Int) := by omega
          have i5x : (5 : Int) < (L.length : Int) := by omega
          have hpm : (x0.toList == [112, 101, 114, 109, 105, 116]) = permR x0.data.toList := by rw [list_of, Bool.eq_iff_iff]; simp only [permR, permitW, beq_iff_eq]; exact ⟨fun h => decide_eq_true h, fun h => of_decide_eq_true h⟩
          clear hl hL hown hrd hcell hP HC h6
          have hkR := heap_alloc_new wr (.cells #[.bool (permR x0.data.toList), .int .i64 (-1), .int .u32 0, .int .i64 0, .int .u32 0, .int .i64 0, .int .u32 0, .int .u32 0, .int .u32 0, .int .u32 0] 29)
          have hbR := below1 wr (.cells #[.bool (permR x0.data.toList), .int .i64 (-1), .int .u32 0, .int .i64 0, .int .u32 0, .int .i64 0, .int .u32 0, .int .u32 0, .int .u32 0, .int .u32 0] 29)
          have S1 := Lib.hid s1
          have S2 := Lib.hid s2
          have S3 := Lib.hid s3
          have S4 := Lib.hid s4
          have S5 := Lib.hid s5
          go_upto_region 12 with fail
          have t1 := cell_kept hbR s1
          generalize wr.alloc (.cells #[.bool (permR x0.data.toList), .int .i64 (-1), .int .u32 0, .int .i64 0, .int .u32 0, .int .i64 0, .int .u32 0, .int .u32 0, .int .u32 0, .int .u32 0] 29) = W1 at *
          have sz0 : w.heap.size < wr.heap.size := lt_of_block hk1
          have HK1 := Lib.hid hk1
          clear hk1 s0 s1 s2 s3 s4 s5 hpm
          obtain ⟨gR, hgReq⟩ : ∃ gR, wr.heap.size = gR := ⟨_, rfl⟩
          have hgR : wr.heap.size ≤ gR := Nat.le_of_eq hgReq
          rw [hgReq] at hkR
          simp only [hgReq]
          by_cases ha : x1.data.toList = anyW
          · have hq : (x1.toList == [97, 110, 121]) = true := by rw [list_of, ha]; rfl
            have hp1 : protoD x1.data.toList = some (-1) := by unfold protoD; rw [if_pos ha]
            have HO := Lib.hid (candD_O (hpr := (by omega)) HP.out hp1)
            obtain ⟨u4, hu4⟩ : ∃ u, (portsD x4.data.toList).2 = u := ⟨_, rfl⟩
            obtain ⟨u5, hu5⟩ : ∃ u, (portsD x5.data.toList).2 = u := ⟨_, rfl⟩
            rw [hu4, hu5] at HO
            have t2 := cell_kept hbR S2.out
            go_wp2_with fail
            refine (refParsePrefix_any x2 W1 l2).mono ?_
            rintro e w3 ⟨rfl, hbx⟩
            have hk3 := blk_below hbx hkR
            have hb3 := hbR.trans (hbx.mono hbR.size)
            have t3 := cell_kept hb3 S3.out
            obtain ⟨c0, c1, c2, c3, c4, c5, c6, c7, c8, c9⟩ := blk10 hk3
            have y0 := frozen_row hk3 0
            have y1 := frozen_row hk3 1
            have y2 := frozen_row hk3 2
            have y3 := frozen_row hk3 3
            have y4 := frozen_row hk3 4
            have y5 := frozen_row hk3 5
            have y6 := frozen_row hk3 6
            have y7 := frozen_row hk3 7
            have y8 := frozen_row hk3 8
            have y9 := frozen_row hk3 9
            have HK3 := Lib.hid hk3
            clear hbx t2 hk3 hkR hbR
            have hb4 := (hb3.setCell (p := ⟨gR, 2, none⟩) hgR (.int .u32 (ppA x2.data.toList))).setCell (p := ⟨gR, 3, none⟩) hgR (.int .i64 (ppN x2.data.toList))
            have hk4 := rset3 (u := .int .i64 (ppN x2.data.toList)) (rset2 (u := .int .u32 (ppA x2.data.toList)) HK3.out)
            have t4 := cell_kept hb4 S3.out
            go_wp2_with fail
            clear c0 c1 c2 c3 c4 c5 c6 c7 c8 c9 y0 y1 y2 y3 y4 y5 y6 y7 y8 y9 t3 HK3
            generalize (w3.setCell ⟨gR, 2, none⟩ (.int .u32 (ppA x2.data.toList))).setCell ⟨gR, 3, none⟩ (.int .i64 (ppN x2.data.toList)) = W4 at *
            refine (refParsePrefix_any x3 W4 l3).mono ?_
            rintro e w5 ⟨rfl, hbx⟩
            have hk5 := blk_below hbx hk4
            have hb5 := hb4.trans (hbx.mono hb4.size)
            obtain ⟨c0, c1, c2, c3, c4, c5, c6, c7, c8, c9⟩ := blk10 hk5
            have y0 := frozen_row hk5 0
            have y1 := frozen_row hk5 1
            have y2 := frozen_row hk5 2
            have y3 := frozen_row hk5 3
            have y4 := frozen_row hk5 4
            have y5 := frozen_row hk5 5
            have y6 := frozen_row hk5 6
            have y7 := frozen_row hk5 7
            have y8 := frozen_row hk5 8
            have y9 := frozen_row hk5 9
            have HK5 := Lib.hid hk5
            clear hbx t4 hk4 hb4 hk5 hb3
            have hb6 := (hb5.setCell (p := ⟨gR, 4, none⟩) hgR (.int .u32 (ppA x3.data.toList))).setCell (p := ⟨gR, 5, none⟩) hgR (.int .i64 (ppN x3.data.toList))
            have hk6 := rset5 (u := .int .i64 (ppN x3.data.toList)) (rset4 (u := .int .u32 (ppA x3.data.toList)) HK5.out)
            have t4 := cell_kept hb6 S4.out
            go_wp2_with fail
            clear c0 c1 c2 c3 c4 c5 c6 c7 c8 c9 y0 y1 y2 y3 y4 y5 y6 y7 y8 y9 HK5
            generalize (w5.setCell ⟨gR, 4, none⟩ (.int .u32 (ppA x3.data.toList))).setCell ⟨gR, 5, none⟩ (.int .i64 (ppN x3.data.toList)) = W6 at *
            have hp4 := refPorts_any x4 W6 l4
            rw [hu4] at hp4
            refine hp4.mono ?_
            rintro e w7 ⟨rfl, hbx⟩
            have hk7 := blk_below hbx hk6
            have hb7 := hb6.trans (hbx.mono hb6.size)
            clear hbx hk6 hb6 t4 hb5
            have hS1 := heap_alloc_new w7 (.cells #[.int .u32 (portsD x4.data.toList).1.1, .int .u32 (portsD x4.data.toList).1.2] 27)
            have hk8 := blk_below (below1 w7 (.cells #[.int .u32 (portsD x4.data.toList).1.1, .int .u32 (portsD x4.data.toList).1.2] 27)) hk7
            have hb8 := hb7.alloc hb7.size (.cells #[.int .u32 (portsD x4.data.toList).1.1, .int .u32 (portsD x4.data.toList).1.2] 27)
            have hg1 : gR < w7.heap.size := lt_of_block hk7
            have t5 := cell_kept hb8 S5.out
            go_wp2_with fail
            generalize w7.alloc (.cells #[.int .u32 (portsD x4.data.toList).1.1, .int .u32 (portsD x4.data.toList).1.2] 27) = W8 at *
            generalize w7.heap.size = g1 at *
            have hp5 := refPorts_any x5 W8 l5
            rw [hu5] at hp5
            refine hp5.mono ?_
            rintro e w9 ⟨rfl, hbx⟩
            have hk9 := blk_below hbx hk8
            have hS9 := blk_below hbx hS1
            have hb9 := hb8.trans (hbx.mono hb8.size)
            clear hbx hk7 hb7 t5 hS1 hk8 hb8
            have hS2 := heap_alloc_new w9 (.cells #[.int .u32 (portsD x5.data.toList).1.1, .int .u32 (portsD x5.data.toList).1.2] 27)
            have hk10 := blk_below (below1 w9 (.cells #[.int .u32 (portsD x5.data.toList).1.1, .int .u32 (portsD x5.data.toList).1.2] 27)) hk9
            have hS10 := blk_below (below1 w9 (.cells #[.int .u32 (portsD x5.data.toList).1.1, .int .u32 (portsD x5.data.toList).1.2] 27)) hS9
            have hb10 := hb9.alloc hb9.size (.cells #[.int .u32 (portsD x5.data.toList).1.1, .int .u32 (portsD x5.data.toList).1.2] 27)
            have hg2 : gR < w9.heap.size := lt_of_block hk9
            have hg3 : g1 < w9.heap.size := lt_of_block hS9
            go_upto_region 21 with fail
            generalize w9.alloc (.cells #[.int .u32 (portsD x5.data.toList).1.1, .int .u32 (portsD x5.data.toList).1.2] 27) = W10 at *
            generalize w9.heap.size = g2 at *
            obtain ⟨c0, c1, c2, c3, c4, c5, c6, c7, c8, c9⟩ := blk10 hk10
            have y0 := frozen_row hk10 0
            have y1 := frozen_row hk10 1
            have y2 := frozen_row hk10 2
            have y3 := frozen_row hk10 3
            have y4 := frozen_row hk10 4
            have y5 := frozen_row hk10 5
            have y6 := frozen_row hk10 6
            have y7 := frozen_row hk10 7
            have y8 := frozen_row hk10 8
            have y9 := frozen_row hk10 9
            obtain ⟨a0, a1, _, _⟩ := two_cells hS10
            obtain ⟨b0, b1, _, _⟩ := two_cells hS2
            clear hk9 hS9 hb9
            have n1 : gR ≠ g1 := Nat.ne_of_lt hg1
            have n2 : gR ≠ g2 := Nat.ne_of_lt hg2
            go_region_held3 (fun V => V.cell? ⟨g1, 0, none⟩ = some (.int .u32 (portsD x4.data.toList).1.1) ∧ V.cell? ⟨g1, 1, none⟩ = some (.int .u32 (portsD x4.data.toList).1.2) ∧ V.cell? ⟨g2, 0, none⟩ = some (.int .u32 (portsD x5.data.toList).1.1) ∧ V.cell? ⟨g2, 1, none⟩ = some (.int .u32 (portsD x5.data.toList).1.2))
              (first | exact ⟨a0, a1, b0, b1⟩ | exact ⟨far2x n1 a0, far2x n1 a1, far2x n2 b0, far2x n2 b1⟩ | exact ⟨far2x n1 (far2x n1 a0), far2x n1 (far2x n1 a1), far2x n2 (far2x n2 b0), far2x n2 (far2x n2 b1)⟩)
              (fail)
            have hk11 := rset9 (u := .int .u32 (portsD x5.data.toList).1.2) (rset8 (u := .int .u32 (portsD x5.data.toList).1.1) (rset7 (u := .int .u32 (portsD x4.data.toList).1.2) (rset6 (u := .int .u32 (portsD x4.data.toList).1.1) hk10)))
            have hb11 := (((hb10.setCell (p := ⟨gR, 6, none⟩) hgR (.int .u32 (portsD x4.data.toList).1.1)).setCell (p := ⟨gR, 7, none⟩) hgR (.int .u32 (portsD x4.data.toList).1.2)).setCell (p := ⟨gR, 8, none⟩) hgR (.int .u32 (portsD x5.data.toList).1.1)).setCell (p := ⟨gR, 9, none⟩) hgR (.int .u32 (portsD x5.data.toList).1.2)
            clear c0 c1 c2 c3 c4 c5 c6 c7 c8 c9 y0 y1 y2 y3 y4 y5 y6 y7 y8 y9 a0 a1 b0 b1 hk10 hS10 hS2 hb10 n1 n2
            generalize (((W10.setCell ⟨gR, 6, none⟩ (.int .u32 (portsD x4.data.toList).1.1)).setCell ⟨gR, 7, none⟩ (.int .u32 (portsD x4.data.toList).1.2)).setCell ⟨gR, 8, none⟩ (.int .u32 (portsD x5.data.toList).1.1)).setCell ⟨gR, 9, none⟩ (.int .u32 (portsD x5.data.toList).1.2) = WX at *
            have hk12 : WX.drew.heap[gR]? = some (ruleObj (candD x0.data.toList x2.data.toList x3.data.toList x4.data.toList x5.data.toList (-1) (by omega))) := hk11
            have hb12 : Below wr.heap.size wr WX.drew := below_drew hb11
            clear hk11 hb11
            generalize WX.drew = W12 at *
            obtain ⟨g0, g1', g2', g3', g4, g5, g6, g7, g8, g9⟩ := rule_blk (r := (candD x0.data.toList x2.data.toList x3.data.toList x4.data.toList x5.data.toList (-1) (by omega))) hk12
            have hT := refFtText_any (candD x0.data.toList x2.data.toList x3.data.toList x4.data.toList x5.data.toList (-1) (by omega)) W12
            have HT := Lib.hid hT
            go_upto_region 99 with fail
            by_cases q1 : ppE x2.data.toList = 0
            · have d1 : (ppE x2.data.toList != 0) = false := by simpa using q1
              by_cases q2 : ppE x3.data.toList = 0
              · have d2 : (ppE x3.data.toList != 0) = false := by simpa using q2
                cases u4 with
                | true =>
                  cases u5 with
                  | true =>
                    cases q3 : mayB (candD x0.data.toList x2.data.toList x3.data.toList x4.data.toList x5.data.toList (-1) (by omega)) with
                    | true =>
                      by_cases q4 : (candD x0.data.toList x2.data.toList x3.data.toList x4.data.toList x5.data.toList (-1) (by omega)).text = s.data.toList
                      · rw [(told_yes q3).1, (told_yes q3).2] at hT
                        have hqq : ((⟨(candD x0.data.toList x2.data.toList x3.data.toList x4.data.toList x5.data.toList (-1) (by omega)).text.toArray⟩ : ByteArray).toList == s.toList) = true := by rw [list_of, list_of]; simp [q4]
                        generalize (⟨(candD x0.data.toList x2.data.toList x3.data.toList x4.data.toList x5.data.toList (-1) (by omega)).text.toArray⟩ : ByteArray) = q at *
                        have HT := Lib.hid hT
                        clear hT g0 g1' g2' g3' g4 g5 g6 g7 g8 g9
                        refine HT.out.mono ?_
                        rintro e w13 ⟨rfl, hbx⟩
                        have hk13 := blk_below hbx hk12
                        have hbW := hb12.trans (hbx.mono hb12.size)
                        clear hbx hk12 hb12
                        have hz := Lib.hid (fr_some (by rw [HO.out, if_pos ⟨q1, q2, rfl, rfl, q3, q4⟩]))
                        obtain ⟨g0, g1, g2, g3, g4, g5, g6, g7, g8, g9⟩ := rule_blk (r := (candD x0.data.toList x2.data.toList x3.data.toList x4.data.toList x5.data.toList (-1) (by omega))) hk13
                        have hk0 := (hbW.block _ sz0).trans HK1.out
                        obtain ⟨d0, d1x, d2x, d3x, d4x, d5x, d6x, d7x, d8x, d9x⟩ := blk10 hk0
                        have z0 := frozen_row hk0 0
                        have z1 := frozen_row hk0 1
                        have z2 := frozen_row hk0 2
                        have z3 := frozen_row hk0 3
                        have z4 := frozen_row hk0 4
                        have z5 := frozen_row hk0 5
                        have z6 := frozen_row hk0 6
                        have z7 := frozen_row hk0 7
                        have z8 := frozen_row hk0 8
                        have z9 := frozen_row hk0 9
                        have HK0 := Lib.hid hk0
                        have hbw := hb1.trans (hbW.mono hb1.size)
                        clear hk0 hk13
                        go_wp2
                        exact bodyPost_ret (results_r (t1 := 2) (t3 := 3) (g := w.heap.size) (r := (candD x0.data.toList x2.data.toList x3.data.toList x4.data.toList x5.data.toList (-1) (by omega))) Tryz.results10 rfl rfl (rset9 (rset8 (rset7 (rset6 (rset5 (rset4 (rset3 (rset2 (rset1 (rset0 HK0.out))))))))))) rfl ⟨by rw [hz.out.1, hz.out.2]; rfl, ((((((((((hbw.setCell (Nat.le_refl _) _).setCell (Nat.le_refl _) _).setCell (Nat.le_refl _) _).setCell (Nat.le_refl _) _).setCell (Nat.le_refl _) _).setCell (Nat.le_refl _) _).setCell (Nat.le_refl _) _).setCell (Nat.le_refl _) _).setCell (Nat.le_refl _) _).setCell (Nat.le_refl _) _)⟩
                      · rw [(told_yes q3).1, (told_yes q3).2] at hT
                        have hqq : ((⟨(candD x0.data.toList x2.data.toList x3.data.toList x4.data.toList x5.data.toList (-1) (by omega)).text.toArray⟩ : ByteArray).toList == s.toList) = false := by rw [list_of, list_of]; simpa using q4
                        generalize (⟨(candD x0.data.toList x2.data.toList x3.data.toList x4.data.toList x5.data.toList (-1) (by omega)).text.toArray⟩ : ByteArray) = q at *
                        have HT := Lib.hid hT
                        clear hT g0 g1' g2' g3' g4 g5 g6 g7 g8 g9
                        refine HT.out.mono ?_
                        rintro e w13 ⟨rfl, hbx⟩
                        have hk13 := blk_below hbx hk12
                        have hbW := hb12.trans (hbx.mono hb12.size)
                        clear hbx hk12 hb12
                        have hz := Lib.hid (fr_none (by rw [HO.out, if_neg (fun h => q4 h.2.2.2.2.2)]))

                        have hk0 := (hbW.block _ sz0).trans HK1.out
                        obtain ⟨d0, d1x, d2x, d3x, d4x, d5x, d6x, d7x, d8x, d9x⟩ := blk10 hk0
                        have z0 := frozen_row hk0 0
                        have z1 := frozen_row hk0 1
                        have z2 := frozen_row hk0 2
                        have z3 := frozen_row hk0 3
                        have z4 := frozen_row hk0 4
                        have z5 := frozen_row hk0 5
                        have z6 := frozen_row hk0 6
                        have z7 := frozen_row hk0 7
                        have z8 := frozen_row hk0 8
                        have z9 := frozen_row hk0 9
                        have HK0 := Lib.hid hk0
                        have hbw := hb1.trans (hbW.mono hb1.size)
                        clear hk0 hk13
                        go_wp2
                        exact bodyPost_ret (results_r (t1 := 2) (t3 := 3) (g := w.heap.size) (r := default) Tryz.results10 rfl rfl (rset9 (rset8 (rset7 (rset6 (rset5 (rset4 (rset3 (rset2 (rset1 (rset0 HK0.out))))))))))) rfl ⟨by rw [hz.out.1, hz.out.2]; rfl, ((((((((((hbw.setCell (Nat.le_refl _) _).setCell (Nat.le_refl _) _).setCell (Nat.le_refl _) _).setCell (Nat.le_refl _) _).setCell (Nat.le_refl _) _).setCell (Nat.le_refl _) _).setCell (Nat.le_refl _) _).setCell (Nat.le_refl _) _).setCell (Nat.le_refl _) _).setCell (Nat.le_refl _) _)⟩
                    | false =>
                      rw [(told_no q3).1, (told_no q3).2] at hT
                      have HT := Lib.hid hT
                      clear hT g0 g1' g2' g3' g4 g5 g6 g7 g8 g9
                      refine HT.out.mono ?_
                      rintro e w13 ⟨rfl, hbx⟩
                      have hk13 := blk_below hbx hk12
                      have hbW := hb12.trans (hbx.mono hb12.size)
                      clear hbx hk12 hb12
                      have hz := Lib.hid (fr_none (by rw [HO.out, if_neg (fun h => by rw [q3] at h; exact absurd h.2.2.2.2.1 Bool.false_ne_true)]))

                      have hk0 := (hbW.block _ sz0).trans HK1.out
                      obtain ⟨d0, d1x, d2x, d3x, d4x, d5x, d6x, d7x, d8x, d9x⟩ := blk10 hk0
                      have z0 := frozen_row hk0 0
                      have z1 := frozen_row hk0 1
                      have z2 := frozen_row hk0 2
                      have z3 := frozen_row hk0 3
                      have z4 := frozen_row hk0 4
                      have z5 := frozen_row hk0 5
                      have z6 := frozen_row hk0 6
                      have z7 := frozen_row hk0 7
                      have z8 := frozen_row hk0 8
                      have z9 := frozen_row hk0 9
                      have HK0 := Lib.hid hk0
                      have hbw := hb1.trans (hbW.mono hb1.size)
                      clear hk0 hk13
                      go_wp2
                      exact bodyPost_ret (results_r (t1 := 2) (t3 := 3) (g := w.heap.size) (r := default) Tryz.results10 rfl rfl (rset9 (rset8 (rset7 (rset6 (rset5 (rset4 (rset3 (rset2 (rset1 (rset0 HK0.out))))))))))) rfl ⟨by rw [hz.out.1, hz.out.2]; rfl, ((((((((((hbw.setCell (Nat.le_refl _) _).setCell (Nat.le_refl _) _).setCell (Nat.le_refl _) _).setCell (Nat.le_refl _) _).setCell (Nat.le_refl _) _).setCell (Nat.le_refl _) _).setCell (Nat.le_refl _) _).setCell (Nat.le_refl _) _).setCell (Nat.le_refl _) _).setCell (Nat.le_refl _) _)⟩
                  | false =>
                    have HT := Lib.hid hT
                    clear hT g0 g1' g2' g3' g4 g5 g6 g7 g8 g9
                    refine HT.out.mono ?_
                    rintro e w13 ⟨rfl, hbx⟩
                    have hk13 := blk_below hbx hk12
                    have hbW := hb12.trans (hbx.mono hb12.size)
                    clear hbx hk12 hb12
                    have hz := Lib.hid (fr_none (by rw [HO.out, if_neg (fun h => absurd h.2.2.2.1 Bool.false_ne_true)]))

                    have hk0 := (hbW.block _ sz0).trans HK1.out
                    obtain ⟨d0, d1x, d2x, d3x, d4x, d5x, d6x, d7x, d8x, d9x⟩ := blk10 hk0
                    have z0 := frozen_row hk0 0
                    have z1 := frozen_row hk0 1
                    have z2 := frozen_row hk0 2
                    have z3 := frozen_row hk0 3
                    have z4 := frozen_row hk0 4
                    have z5 := frozen_row hk0 5
                    have z6 := frozen_row hk0 6
                    have z7 := frozen_row hk0 7
                    have z8 := frozen_row hk0 8
                    have z9 := frozen_row hk0 9
                    have HK0 := Lib.hid hk0
                    have hbw := hb1.trans (hbW.mono hb1.size)
                    clear hk0 hk13
                    go_wp2
                    exact bodyPost_ret (results_r (t1 := 2) (t3 := 3) (g := w.heap.size) (r := default) Tryz.results10 rfl rfl (rset9 (rset8 (rset7 (rset6 (rset5 (rset4 (rset3 (rset2 (rset1 (rset0 HK0.out))))))))))) rfl ⟨by rw [hz.out.1, hz.out.2]; rfl, ((((((((((hbw.setCell (Nat.le_refl _) _).setCell (Nat.le_refl _) _).setCell (Nat.le_refl _) _).setCell (Nat.le_refl _) _).setCell (Nat.le_refl _) _).setCell (Nat.le_refl _) _).setCell (Nat.le_refl _) _).setCell (Nat.le_refl _) _).setCell (Nat.le_refl _) _).setCell (Nat.le_refl _) _)⟩
                | false =>
                  have HT := Lib.hid hT
                  clear hT g0 g1' g2' g3' g4 g5 g6 g7 g8 g9
                  refine HT.out.mono ?_
                  rintro e w13 ⟨rfl, hbx⟩
                  have hk13 := blk_below hbx hk12
                  have hbW := hb12.trans (hbx.mono hb12.size)
                  clear hbx hk12 hb12
                  have hz := Lib.hid (fr_none (by rw [HO.out, if_neg (fun h => absurd h.2.2.1 Bool.false_ne_true)]))

                  have hk0 := (hbW.block _ sz0).trans HK1.out
                  obtain ⟨d0, d1x, d2x, d3x, d4x, d5x, d6x, d7x, d8x, d9x⟩ := blk10 hk0
                  have z0 := frozen_row hk0 0
                  have z1 := frozen_row hk0 1
                  have z2 := frozen_row hk0 2
                  have z3 := frozen_row hk0 3
                  have z4 := frozen_row hk0 4
                  have z5 := frozen_row hk0 5
                  have z6 := frozen_row hk0 6
                  have z7 := frozen_row hk0 7
                  have z8 := frozen_row hk0 8
                  have z9 := frozen_row hk0 9
                  have HK0 := Lib.hid hk0
                  have hbw := hb1.trans (hbW.mono hb1.size)
                  clear hk0 hk13
                  go_wp2
                  exact bodyPost_ret (results_r (t1 := 2) (t3 := 3) (g := w.heap.size) (r := default) Tryz.results10 rfl rfl (rset9 (rset8 (rset7 (rset6 (rset5 (rset4 (rset3 (rset2 (rset1 (rset0 HK0.out))))))))))) rfl ⟨by rw [hz.out.1, hz.out.2]; rfl, ((((((((((hbw.setCell (Nat.le_refl _) _).setCell (Nat.le_refl _) _).setCell (Nat.le_refl _) _).setCell (Nat.le_refl _) _).setCell (Nat.le_refl _) _).setCell (Nat.le_refl _) _).setCell (Nat.le_refl _) _).setCell (Nat.le_refl _) _).setCell (Nat.le_refl _) _).setCell (Nat.le_refl _) _)⟩
              · have d2 : (ppE x3.data.toList != 0) = true := by simpa using q2
                have HT := Lib.hid hT
                clear hT g0 g1' g2' g3' g4 g5 g6 g7 g8 g9
                refine HT.out.mono ?_
                rintro e w13 ⟨rfl, hbx⟩
                have hk13 := blk_below hbx hk12
                have hbW := hb12.trans (hbx.mono hb12.size)
                clear hbx hk12 hb12
                have hz := Lib.hid (fr_none (by rw [HO.out, if_neg (fun h => q2 h.2.1)]))

                have hk0 := (hbW.block _ sz0).trans HK1.out
                obtain ⟨d0, d1x, d2x, d3x, d4x, d5x, d6x, d7x, d8x, d9x⟩ := blk10 hk0
                have z0 := frozen_row hk0 0
                have z1 := frozen_row hk0 1
                have z2 := frozen_row hk0 2
                have z3 := frozen_row hk0 3
                have z4 := frozen_row hk0 4
                have z5 := frozen_row hk0 5
                have z6 := frozen_row hk0 6
                have z7 := frozen_row hk0 7
                have z8 := frozen_row hk0 8
                have z9 := frozen_row hk0 9
                have HK0 := Lib.hid hk0
                have hbw := hb1.trans (hbW.mono hb1.size)
                clear hk0 hk13
                go_wp2
                exact bodyPost_ret (results_r (t1 := 2) (t3 := 3) (g := w.heap.size) (r := default) Tryz.results10 rfl rfl (rset9 (rset8 (rset7 (rset6 (rset5 (rset4 (rset3 (rset2 (rset1 (rset0 HK0.out))))))))))) rfl ⟨by rw [hz.out.1, hz.out.2]; rfl, ((((((((((hbw.setCell (Nat.le_refl _) _).setCell (Nat.le_refl _) _).setCell (Nat.le_refl _) _).setCell (Nat.le_refl _) _).setCell (Nat.le_refl _) _).setCell (Nat.le_refl _) _).setCell (Nat.le_refl _) _).setCell (Nat.le_refl _) _).setCell (Nat.le_refl _) _).setCell (Nat.le_refl _) _)⟩
            · have d1 : (ppE x2.data.toList != 0) = true := by simpa using q1
              have HT := Lib.hid hT
              clear hT g0 g1' g2' g3' g4 g5 g6 g7 g8 g9
              refine HT.out.mono ?_
              rintro e w13 ⟨rfl, hbx⟩
              have hk13 := blk_below hbx hk12
              have hbW := hb12.trans (hbx.mono hb12.size)
              clear hbx hk12 hb12
              have hz := Lib.hid (fr_none (by rw [HO.out, if_neg (fun h => q1 h.1)]))

              have hk0 := (hbW.block _ sz0).trans HK1.out
              obtain ⟨d0, d1x, d2x, d3x, d4x, d5x, d6x, d7x, d8x, d9x⟩ := blk10 hk0
              have z0 := frozen_row hk0 0
              have z1 := frozen_row hk0 1
              have z2 := frozen_row hk0 2
              have z3 := frozen_row hk0 3
              have z4 := frozen_row hk0 4
              have z5 := frozen_row hk0 5
              have z6 := frozen_row hk0 6
              have z7 := frozen_row hk0 7
              have z8 := frozen_row hk0 8
              have z9 := frozen_row hk0 9
              have HK0 := Lib.hid hk0
              have hbw := hb1.trans (hbW.mono hb1.size)
              clear hk0 hk13
              go_wp2
              exact bodyPost_ret (results_r (t1 := 2) (t3 := 3) (g := w.heap.size) (r := default) Tryz.results10 rfl rfl (rset9 (rset8 (rset7 (rset6 (rset5 (rset4 (rset3 (rset2 (rset1 (rset0 HK0.out))))))))))) rfl ⟨by rw [hz.out.1, hz.out.2]; rfl, ((((((((((hbw.setCell (Nat.le_refl _) _).setCell (Nat.le_refl _) _).setCell (Nat.le_refl _) _).setCell (Nat.le_refl _) _).setCell (Nat.le_refl _) _).setCell (Nat.le_refl _) _).setCell (Nat.le_refl _) _).setCell (Nat.le_refl _) _).setCell (Nat.le_refl _) _).setCell (Nat.le_refl _) _)⟩
          · have hq : (x1.toList == [97, 110, 121]) = false := by rw [list_of]; simpa [anyW] using ha
            have rb := rdV_le x1.data.toList 255
            obtain ⟨v, hv⟩ : ∃ v, rdV x1.data.toList 255 = v := ⟨_, rfl⟩
            rw [hv] at rb
            obtain ⟨rb1, rb2⟩ := rb
            have hR := refRead_any x1 255 (by omega) W1
            rw [hv] at hR
            obtain ⟨c0, c1, c2, c3, c4, c5, c6, c7, c8, c9⟩ := blk10 hkR
            have y0 := frozen_row hkR 0
            have y1 := frozen_row hkR 1
            have y2 := frozen_row hkR 2
            have y3 := frozen_row hkR 3
            have y4 := frozen_row hkR 4
            have y5 := frozen_row hkR 5
            have y6 := frozen_row hkR 6
            have y7 := frozen_row hkR 7
            have y8 := frozen_row hkR 8
            have y9 := frozen_row hkR 9
            have HKR := Lib.hid hkR
            have hb2 := hbR.setCell (p := ⟨gR, 1, none⟩) hgR (.int .i64 v)
            have hk2 := rset1 (u := .int .i64 v) hkR
            have HR := Lib.hid hR
            clear hR hkR
            go_wp2_with fail
            refine HR.out.mono ?_
            rintro e w2 ⟨rfl, rfl⟩
            go_upto_region 14 with fail
            clear c0 c1 c2 c3 c4 c5 c6 c7 c8 c9 y0 y1 y2 y3 y4 y5 y6 y7 y8 y9 t1 hbR HR HKR
            generalize W1.setCell ⟨gR, 1, none⟩ (.int .i64 v) = W2 at *
            obtain ⟨c0, c1, c2, c3, c4, c5, c6, c7, c8, c9⟩ := blk10 hk2
            by_cases hn : v < 0
            · have hz := Lib.hid (fr_none (frO_protoD HP.out (by unfold protoD; rw [if_neg ha, hv, if_pos hn])))
              have hk0 := (hb2.block _ sz0).trans HK1.out
              obtain ⟨d0, d1x, d2x, d3x, d4x, d5x, d6x, d7x, d8x, d9x⟩ := blk10 hk0
              have z0 := frozen_row hk0 0
              have z1 := frozen_row hk0 1
              have z2 := frozen_row hk0 2
              have z3 := frozen_row hk0 3
              have z4 := frozen_row hk0 4
              have z5 := frozen_row hk0 5
              have z6 := frozen_row hk0 6
              have z7 := frozen_row hk0 7
              have z8 := frozen_row hk0 8
              have z9 := frozen_row hk0 9
              have HK0 := Lib.hid hk0
              have hbw := hb1.trans (hb2.mono hb1.size)
              clear hk0 hk2
              go_wp2
              exact bodyPost_ret (results_r (t1 := 2) (t3 := 3) (g := w.heap.size) (r := default) Tryz.results10 rfl rfl (rset9 (rset8 (rset7 (rset6 (rset5 (rset4 (rset3 (rset2 (rset1 (rset0 HK0.out))))))))))) rfl ⟨by rw [hz.out.1, hz.out.2]; rfl, ((((((((((hbw.setCell (Nat.le_refl _) _).setCell (Nat.le_refl _) _).setCell (Nat.le_refl _) _).setCell (Nat.le_refl _) _).setCell (Nat.le_refl _) _).setCell (Nat.le_refl _) _).setCell (Nat.le_refl _) _).setCell (Nat.le_refl _) _).setCell (Nat.le_refl _) _).setCell (Nat.le_refl _) _)⟩
            · have hp1 : protoD x1.data.toList = some v := by unfold protoD; rw [if_neg ha, hv, if_neg hn]
              have HO := Lib.hid (candD_O (hpr := (by omega)) HP.out hp1)
              go_upto_region 16 with fail
              clear c0 c1 c2 c3 c4 c5 c6 c7 c8 c9
              obtain ⟨u4, hu4⟩ : ∃ u, (portsD x4.data.toList).2 = u := ⟨_, rfl⟩
              obtain ⟨u5, hu5⟩ : ∃ u, (portsD x5.data.toList).2 = u := ⟨_, rfl⟩
              rw [hu4, hu5] at HO
              have t2 := cell_kept hb2 S2.out
              go_wp2_with fail
              refine (refParsePrefix_any x2 W2 l2).mono ?_
              rintro e w3 ⟨rfl, hbx⟩
              have hk3 := blk_below hbx hk2
              have hb3 := hb2.trans (hbx.mono hb2.size)
              have t3 := cell_kept hb3 S3.out
              obtain ⟨c0, c1, c2, c3, c4, c5, c6, c7, c8, c9⟩ := blk10 hk3
              have y0 := frozen_row hk3 0
              have y1 := frozen_row hk3 1
              have y2 := frozen_row hk3 2
              have y3 := frozen_row hk3 3
              have y4 := frozen_row hk3 4
              have y5 := frozen_row hk3 5
              have y6 := frozen_row hk3 6
              have y7 := frozen_row hk3 7
              have y8 := frozen_row hk3 8
              have y9 := frozen_row hk3 9
              have HK3 := Lib.hid hk3
              clear hbx t2 hk3 hk2 hb2
              have hb4 := (hb3.setCell (p := ⟨gR, 2, none⟩) hgR (.int .u32 (ppA x2.data.toList))).setCell (p := ⟨gR, 3, none⟩) hgR (.int .i64 (ppN x2.data.toList))
              have hk4 := rset3 (u := .int .i64 (ppN x2.data.toList)) (rset2 (u := .int .u32 (ppA x2.data.toList)) HK3.out)
              have t4 := cell_kept hb4 S3.out
              go_wp2_with fail
              clear c0 c1 c2 c3 c4 c5 c6 c7 c8 c9 y0 y1 y2 y3 y4 y5 y6 y7 y8 y9 t3 HK3
              generalize (w3.setCell ⟨gR, 2, none⟩ (.int .u32 (ppA x2.data.toList))).setCell ⟨gR, 3, none⟩ (.int .i64 (ppN x2.data.toList)) = W4 at *
              refine (refParsePrefix_any x3 W4 l3).mono ?_
              rintro e w5 ⟨rfl, hbx⟩
              have hk5 := blk_below hbx hk4
              have hb5 := hb4.trans (hbx.mono hb4.size)
              obtain ⟨c0, c1, c2, c3, c4, c5, c6, c7, c8, c9⟩ := blk10 hk5
              have y0 := frozen_row hk5 0
              have y1 := frozen_row hk5 1
              have y2 := frozen_row hk5 2
              have y3 := frozen_row hk5 3
              have y4 := frozen_row hk5 4
              have y5 := frozen_row hk5 5
              have y6 := frozen_row hk5 6
              have y7 := frozen_row hk5 7
              have y8 := frozen_row hk5 8
              have y9 := frozen_row hk5 9
              have HK5 := Lib.hid hk5
              clear hbx t4 hk4 hb4 hk5 hb3
              have hb6 := (hb5.setCell (p := ⟨gR, 4, none⟩) hgR (.int .u32 (ppA x3.data.toList))).setCell (p := ⟨gR, 5, none⟩) hgR (.int .i64 (ppN x3.data.toList))
              have hk6 := rset5 (u := .int .i64 (ppN x3.data.toList)) (rset4 (u := .int .u32 (ppA x3.data.toList)) HK5.out)
              have t4 := cell_kept hb6 S4.out
              go_wp2_with fail
              clear c0 c1 c2 c3 c4 c5 c6 c7 c8 c9 y0 y1 y2 y3 y4 y5 y6 y7 y8 y9 HK5
              generalize (w5.setCell ⟨gR, 4, none⟩ (.int .u32 (ppA x3.data.toList))).setCell ⟨gR, 5, none⟩ (.int .i64 (ppN x3.data.toList)) = W6 at *
              have hp4 := refPorts_any x4 W6 l4
              rw [hu4] at hp4
              refine hp4.mono ?_
              rintro e w7 ⟨rfl, hbx⟩
              have hk7 := blk_below hbx hk6
              have hb7 := hb6.trans (hbx.mono hb6.size)
              clear hbx hk6 hb6 t4 hb5
              have hS1 := heap_alloc_new w7 (.cells #[.int .u32 (portsD x4.data.toList).1.1, .int .u32 (portsD x4.data.toList).1.2] 27)
              have hk8 := blk_below (below1 w7 (.cells #[.int .u32 (portsD x4.data.toList).1.1, .int .u32 (portsD x4.data.toList).1.2] 27)) hk7
              have hb8 := hb7.alloc hb7.size (.cells #[.int .u32 (portsD x4.data.toList).1.1, .int .u32 (portsD x4.data.toList).1.2] 27)
              have hg1 : gR < w7.heap.size := lt_of_block hk7
              have t5 := cell_kept hb8 S5.out
              go_wp2_with fail
              generalize w7.alloc (.cells #[.int .u32 (portsD x4.data.toList).1.1, .int .u32 (portsD x4.data.toList).1.2] 27) = W8 at *
              generalize w7.heap.size = g1 at *
              have hp5 := refPorts_any x5 W8 l5
              rw [hu5] at hp5
              refine hp5.mono ?_
              rintro e w9 ⟨rfl, hbx⟩
              have hk9 := blk_below hbx hk8
              have hS9 := blk_below hbx hS1
              have hb9 := hb8.trans (hbx.mono hb8.size)
              clear hbx hk7 hb7 t5 hS1 hk8 hb8
              have hS2 := heap_alloc_new w9 (.cells #[.int .u32 (portsD x5.data.toList).1.1, .int .u32 (portsD x5.data.toList).1.2] 27)
              have hk10 := blk_below (below1 w9 (.cells #[.int .u32 (portsD x5.data.toList).1.1, .int .u32 (portsD x5.data.toList).1.2] 27)) hk9
              have hS10 := blk_below (below1 w9 (.cells #[.int .u32 (portsD x5.data.toList).1.1, .int .u32 (portsD x5.data.toList).1.2] 27)) hS9
              have hb10 := hb9.alloc hb9.size (.cells #[.int .u32 (portsD x5.data.toList).1.1, .int .u32 (portsD x5.data.toList).1.2] 27)
              have hg2 : gR < w9.heap.size := lt_of_block hk9
              have hg3 : g1 < w9.heap.size := lt_of_block hS9
              go_upto_region 21 with fail
              generalize w9.alloc (.cells #[.int .u32 (portsD x5.data.toList).1.1, .int .u32 (portsD x5.data.toList).1.2] 27) = W10 at *
              generalize w9.heap.size = g2 at *
              obtain ⟨c0, c1, c2, c3, c4, c5, c6, c7, c8, c9⟩ := blk10 hk10
              have y0 := frozen_row hk10 0
              have y1 := frozen_row hk10 1
              have y2 := frozen_row hk10 2
              have y3 := frozen_row hk10 3
              have y4 := frozen_row hk10 4
              have y5 := frozen_row hk10 5
              have y6 := frozen_row hk10 6
              have y7 := frozen_row hk10 7
              have y8 := frozen_row hk10 8
              have y9 := frozen_row hk10 9
              obtain ⟨a0, a1, _, _⟩ := two_cells hS10
              obtain ⟨b0, b1, _, _⟩ := two_cells hS2
              clear hk9 hS9 hb9
              have n1 : gR ≠ g1 := Nat.ne_of_lt hg1
              have n2 : gR ≠ g2 := Nat.ne_of_lt hg2
              go_region_held3 (fun V => V.cell? ⟨g1, 0, none⟩ = some (.int .u32 (portsD x4.data.toList).1.1) ∧ V.cell? ⟨g1, 1, none⟩ = some (.int .u32 (portsD x4.data.toList).1.2) ∧ V.cell? ⟨g2, 0, none⟩ = some (.int .u32 (portsD x5.data.toList).1.1) ∧ V.cell? ⟨g2, 1, none⟩ = some (.int .u32 (portsD x5.data.toList).1.2))
                (first | exact ⟨a0, a1, b0, b1⟩ | exact ⟨far2x n1 a0, far2x n1 a1, far2x n2 b0, far2x n2 b1⟩ | exact ⟨far2x n1 (far2x n1 a0), far2x n1 (far2x n1 a1), far2x n2 (far2x n2 b0), far2x n2 (far2x n2 b1)⟩)
                (fail)
              have hk11 := rset9 (u := .int .u32 (portsD x5.data.toList).1.2) (rset8 (u := .int .u32 (portsD x5.data.toList).1.1) (rset7 (u := .int .u32 (portsD x4.data.toList).1.2) (rset6 (u := .int .u32 (portsD x4.data.toList).1.1) hk10)))
              have hb11 := (((hb10.setCell (p := ⟨gR, 6, none⟩) hgR (.int .u32 (portsD x4.data.toList).1.1)).setCell (p := ⟨gR, 7, none⟩) hgR (.int .u32 (portsD x4.data.toList).1.2)).setCell (p := ⟨gR, 8, none⟩) hgR (.int .u32 (portsD x5.data.toList).1.1)).setCell (p := ⟨gR, 9, none⟩) hgR (.int .u32 (portsD x5.data.toList).1.2)
              clear c0 c1 c2 c3 c4 c5 c6 c7 c8 c9 y0 y1 y2 y3 y4 y5 y6 y7 y8 y9 a0 a1 b0 b1 hk10 hS10 hS2 hb10 n1 n2
              generalize (((W10.setCell ⟨gR, 6, none⟩ (.int .u32 (portsD x4.data.toList).1.1)).setCell ⟨gR, 7, none⟩ (.int .u32 (portsD x4.data.toList).1.2)).setCell ⟨gR, 8, none⟩ (.int .u32 (portsD x5.data.toList).1.1)).setCell ⟨gR, 9, none⟩ (.int .u32 (portsD x5.data.toList).1.2) = WX at *
              have hk12 : WX.drew.heap[gR]? = some (ruleObj (candD x0.data.toList x2.data.toList x3.data.toList x4.data.toList x5.data.toList (v) (by omega))) := hk11
              have hb12 : Below wr.heap.size wr WX.drew := below_drew hb11
              clear hk11 hb11
              generalize WX.drew = W12 at *
              obtain ⟨g0, g1', g2', g3', g4, g5, g6, g7, g8, g9⟩ := rule_blk (r := (candD x0.data.toList x2.data.toList x3.data.toList x4.data.toList x5.data.toList (v) (by omega))) hk12
              have hT := refFtText_any (candD x0.data.toList x2.data.toList x3.data.toList x4.data.toList x5.data.toList (v) (by omega)) W12
              have HT := Lib.hid hT
              go_upto_region 99 with fail
              by_cases q1 : ppE x2.data.toList = 0
              · have d1 : (ppE x2.data.toList != 0) = false := by simpa using q1
                by_cases q2 : ppE x3.data.toList = 0
                · have d2 : (ppE x3.data.toList != 0) = false := by simpa using q2
                  cases u4 with
                  | true =>
                    cases u5 with
                    | true =>
                      cases q3 : mayB (candD x0.data.toList x2.data.toList x3.data.toList x4.data.toList x5.data.toList (v) (by omega)) with
                      | true =>
                        by_cases q4 : (candD x0.data.toList x2.data.toList x3.data.toList x4.data.toList x5.data.toList (v) (by omega)).text = s.data.toList
                        · rw [(told_yes q3).1, (told_yes q3).2] at hT
                          have hqq : ((⟨(candD x0.data.toList x2.data.toList x3.data.toList x4.data.toList x5.data.toList (v) (by omega)).text.toArray⟩ : ByteArray).toList == s.toList) = true := by rw [list_of, list_of]; simp [q4]
                          generalize (⟨(candD x0.data.toList x2.data.toList x3.data.toList x4.data.toList x5.data.toList (v) (by omega)).text.toArray⟩ : ByteArray) = q at *
                          have HT := Lib.hid hT
                          clear hT g0 g1' g2' g3' g4 g5 g6 g7 g8 g9
                          refine HT.out.mono ?_
                          rintro e w13 ⟨rfl, hbx⟩
                          have hk13 := blk_below hbx hk12
                          have hbW := hb12.trans (hbx.mono hb12.size)
                          clear hbx hk12 hb12
                          have hz := Lib.hid (fr_some (by rw [HO.out, if_pos ⟨q1, q2, rfl, rfl, q3, q4⟩]))
                          obtain ⟨g0, g1, g2, g3, g4, g5, g6, g7, g8, g9⟩ := rule_blk (r := (candD x0.data.toList x2.data.toList x3.data.toList x4.data.toList x5.data.toList (v) (by omega))) hk13
                          have hk0 := (hbW.block _ sz0).trans HK1.out
                          obtain ⟨d0, d1x, d2x, d3x, d4x, d5x, d6x, d7x, d8x, d9x⟩ := blk10 hk0
                          have z0 := frozen_row hk0 0
                          have z1 := frozen_row hk0 1
                          have z2 := frozen_row hk0 2
                          have z3 := frozen_row hk0 3
                          have z4 := frozen_row hk0 4
                          have z5 := frozen_row hk0 5
                          have z6 := frozen_row hk0 6
                          have z7 := frozen_row hk0 7
                          have z8 := frozen_row hk0 8
                          have z9 := frozen_row hk0 9
                          have HK0 := Lib.hid hk0
                          have hbw := hb1.trans (hbW.mono hb1.size)
                          clear hk0 hk13
                          go_wp2
                          exact bodyPost_ret (results_r (t1 := 2) (t3 := 3) (g := w.heap.size) (r := (candD x0.data.toList x2.data.toList x3.data.toList x4.data.toList x5.data.toList (v) (by omega))) Tryz.results10 rfl rfl (rset9 (rset8 (rset7 (rset6 (rset5 (rset4 (rset3 (rset2 (rset1 (rset0 HK0.out))))))))))) rfl ⟨by rw [hz.out.1, hz.out.2]; rfl, ((((((((((hbw.setCell (Nat.le_refl _) _).setCell (Nat.le_refl _) _).setCell (Nat.le_refl _) _).setCell (Nat.le_refl _) _).setCell (Nat.le_refl _) _).setCell (Nat.le_refl _) _).setCell (Nat.le_refl _) _).setCell (Nat.le_refl _) _).setCell (Nat.le_refl _) _).setCell (Nat.le_refl _) _)⟩
                        · rw [(told_yes q3).1, (told_yes q3).2] at hT
                          have hqq : ((⟨(candD x0.data.toList x2.data.toList x3.data.toList x4.data.toList x5.data.toList (v) (by omega)).text.toArray⟩ : ByteArray).toList == s.toList) = false := by rw [list_of, list_of]; simpa using q4
                          generalize (⟨(candD x0.data.toList x2.data.toList x3.data.toList x4.data.toList x5.data.toList (v) (by omega)).text.toArray⟩ : ByteArray) = q at *
                          have HT := Lib.hid hT
                          clear hT g0 g1' g2' g3' g4 g5 g6 g7 g8 g9
                          refine HT.out.mono ?_
                          rintro e w13 ⟨rfl, hbx⟩
                          have hk13 := blk_below hbx hk12
                          have hbW := hb12.trans (hbx.mono hb12.size)
                          clear hbx hk12 hb12
                          have hz := Lib.hid (fr_none (by rw [HO.out, if_neg (fun h => q4 h.2.2.2.2.2)]))

                          have hk0 := (hbW.block _ sz0).trans HK1.out
                          obtain ⟨d0, d1x, d2x, d3x, d4x, d5x, d6x, d7x, d8x, d9x⟩ := blk10 hk0
                          have z0 := frozen_row hk0 0
                          have z1 := frozen_row hk0 1
                          have z2 := frozen_row hk0 2
                          have z3 := frozen_row hk0 3
                          have z4 := frozen_row hk0 4
                          have z5 := frozen_row hk0 5
                          have z6 := frozen_row hk0 6
                          have z7 := frozen_row hk0 7
                          have z8 := frozen_row hk0 8
                          have z9 := frozen_row hk0 9
                          have HK0 := Lib.hid hk0
                          have hbw := hb1.trans (hbW.mono hb1.size)
                          clear hk0 hk13
                          go_wp2
                          exact bodyPost_ret (results_r (t1 := 2) (t3 := 3) (g := w.heap.size) (r := default) Tryz.results10 rfl rfl (rset9 (rset8 (rset7 (rset6 (rset5 (rset4 (rset3 (rset2 (rset1 (rset0 HK0.out))))))))))) rfl ⟨by rw [hz.out.1, hz.out.2]; rfl, ((((((((((hbw.setCell (Nat.le_refl _) _).setCell (Nat.le_refl _) _).setCell (Nat.le_refl _) _).setCell (Nat.le_refl _) _).setCell (Nat.le_refl _) _).setCell (Nat.le_refl _) _).setCell (Nat.le_refl _) _).setCell (Nat.le_refl _) _).setCell (Nat.le_refl _) _).setCell (Nat.le_refl _) _)⟩
                      | false =>
                        rw [(told_no q3).1, (told_no q3).2] at hT
                        have HT := Lib.hid hT
                        clear hT g0 g1' g2' g3' g4 g5 g6 g7 g8 g9
                        refine HT.out.mono ?_
                        rintro e w13 ⟨rfl, hbx⟩
                        have hk13 := blk_below hbx hk12
                        have hbW := hb12.trans (hbx.mono hb12.size)
                        clear hbx hk12 hb12
                        have hz := Lib.hid (fr_none (by rw [HO.out, if_neg (fun h => by rw [q3] at h; exact absurd h.2.2.2.2.1 Bool.false_ne_true)]))

                        have hk0 := (hbW.block _ sz0).trans HK1.out
                        obtain ⟨d0, d1x, d2x, d3x, d4x, d5x, d6x, d7x, d8x, d9x⟩ := blk10 hk0
                        have z0 := frozen_row hk0 0
                        have z1 := frozen_row hk0 1
                        have z2 := frozen_row hk0 2
                        have z3 := frozen_row hk0 3
                        have z4 := frozen_row hk0 4
                        have z5 := frozen_row hk0 5
                        have z6 := frozen_row hk0 6
                        have z7 := frozen_row hk0 7
                        have z8 := frozen_row hk0 8
                        have z9 := frozen_row hk0 9
                        have HK0 := Lib.hid hk0
                        have hbw := hb1.trans (hbW.mono hb1.size)
                        clear hk0 hk13
                        go_wp2
                        exact bodyPost_ret (results_r (t1 := 2) (t3 := 3) (g := w.heap.size) (r := default) Tryz.results10 rfl rfl (rset9 (rset8 (rset7 (rset6 (rset5 (rset4 (rset3 (rset2 (rset1 (rset0 HK0.out))))))))))) rfl ⟨by rw [hz.out.1, hz.out.2]; rfl, ((((((((((hbw.setCell (Nat.le_refl _) _).setCell (Nat.le_refl _) _).setCell (Nat.le_refl _) _).setCell (Nat.le_refl _) _).setCell (Nat.le_refl _) _).setCell (Nat.le_refl _) _).setCell (Nat.le_refl _) _).setCell (Nat.le_refl _) _).setCell (Nat.le_refl _) _).setCell (Nat.le_refl _) _)⟩
                    | false =>
                      have HT := Lib.hid hT
                      clear hT g0 g1' g2' g3' g4 g5 g6 g7 g8 g9
                      refine HT.out.mono ?_
                      rintro e w13 ⟨rfl, hbx⟩
                      have hk13 := blk_below hbx hk12
                      have hbW := hb12.trans (hbx.mono hb12.size)
                      clear hbx hk12 hb12
                      have hz := Lib.hid (fr_none (by rw [HO.out, if_neg (fun h => absurd h.2.2.2.1 Bool.false_ne_true)]))

                      have hk0 := (hbW.block _ sz0).trans HK1.out
                      obtain ⟨d0, d1x, d2x, d3x, d4x, d5x, d6x, d7x, d8x, d9x⟩ := blk10 hk0
                      have z0 := frozen_row hk0 0
                      have z1 := frozen_row hk0 1
                      have z2 := frozen_row hk0 2
                      have z3 := frozen_row hk0 3
                      have z4 := frozen_row hk0 4
                      have z5 := frozen_row hk0 5
                      have z6 := frozen_row hk0 6
                      have z7 := frozen_row hk0 7
                      have z8 := frozen_row hk0 8
                      have z9 := frozen_row hk0 9
                      have HK0 := Lib.hid hk0
                      have hbw := hb1.trans (hbW.mono hb1.size)
                      clear hk0 hk13
                      go_wp2
                      exact bodyPost_ret (results_r (t1 := 2) (t3 := 3) (g := w.heap.size) (r := default) Tryz.results10 rfl rfl (rset9 (rset8 (rset7 (rset6 (rset5 (rset4 (rset3 (rset2 (rset1 (rset0 HK0.out))))))))))) rfl ⟨by rw [hz.out.1, hz.out.2]; rfl, ((((((((((hbw.setCell (Nat.le_refl _) _).setCell (Nat.le_refl _) _).setCell (Nat.le_refl _) _).setCell (Nat.le_refl _) _).setCell (Nat.le_refl _) _).setCell (Nat.le_refl _) _).setCell (Nat.le_refl _) _).setCell (Nat.le_refl _) _).setCell (Nat.le_refl _) _).setCell (Nat.le_refl _) _)⟩
                  | false =>
                    have HT := Lib.hid hT
                    clear hT g0 g1' g2' g3' g4 g5 g6 g7 g8 g9
                    refine HT.out.mono ?_
                    rintro e w13 ⟨rfl, hbx⟩
                    have hk13 := blk_below hbx hk12
                    have hbW := hb12.trans (hbx.mono hb12.size)
                    clear hbx hk12 hb12
                    have hz := Lib.hid (fr_none (by rw [HO.out, if_neg (fun h => absurd h.2.2.1 Bool.false_ne_true)]))

                    have hk0 := (hbW.block _ sz0).trans HK1.out
                    obtain ⟨d0, d1x, d2x, d3x, d4x, d5x, d6x, d7x, d8x, d9x⟩ := blk10 hk0
                    have z0 := frozen_row hk0 0
                    have z1 := frozen_row hk0 1
                    have z2 := frozen_row hk0 2
                    have z3 := frozen_row hk0 3
                    have z4 := frozen_row hk0 4
                    have z5 := frozen_row hk0 5
                    have z6 := frozen_row hk0 6
                    have z7 := frozen_row hk0 7
                    have z8 := frozen_row hk0 8
                    have z9 := frozen_row hk0 9
                    have HK0 := Lib.hid hk0
                    have hbw := hb1.trans (hbW.mono hb1.size)
                    clear hk0 hk13
                    go_wp2
                    exact bodyPost_ret (results_r (t1 := 2) (t3 := 3) (g := w.heap.size) (r := default) Tryz.results10 rfl rfl (rset9 (rset8 (rset7 (rset6 (rset5 (rset4 (rset3 (rset2 (rset1 (rset0 HK0.out))))))))))) rfl ⟨by rw [hz.out.1, hz.out.2]; rfl, ((((((((((hbw.setCell (Nat.le_refl _) _).setCell (Nat.le_refl _) _).setCell (Nat.le_refl _) _).setCell (Nat.le_refl _) _).setCell (Nat.le_refl _) _).setCell (Nat.le_refl _) _).setCell (Nat.le_refl _) _).setCell (Nat.le_refl _) _).setCell (Nat.le_refl _) _).setCell (Nat.le_refl _) _)⟩
                · have d2 : (ppE x3.data.toList != 0) = true := by simpa using q2
                  have HT := Lib.hid hT
                  clear hT g0 g1' g2' g3' g4 g5 g6 g7 g8 g9
                  refine HT.out.mono ?_
                  rintro e w13 ⟨rfl, hbx⟩
                  have hk13 := blk_below hbx hk12
                  have hbW := hb12.trans (hbx.mono hb12.size)
                  clear hbx hk12 hb12
                  have hz := Lib.hid (fr_none (by rw [HO.out, if_neg (fun h => q2 h.2.1)]))

                  have hk0 := (hbW.block _ sz0).trans HK1.out
                  obtain ⟨d0, d1x, d2x, d3x, d4x, d5x, d6x, d7x, d8x, d9x⟩ := blk10 hk0
                  have z0 := frozen_row hk0 0
                  have z1 := frozen_row hk0 1
                  have z2 := frozen_row hk0 2
                  have z3 := frozen_row hk0 3
                  have z4 := frozen_row hk0 4
                  have z5 := frozen_row hk0 5
                  have z6 := frozen_row hk0 6
                  have z7 := frozen_row hk0 7
                  have z8 := frozen_row hk0 8
                  have z9 := frozen_row hk0 9
                  have HK0 := Lib.hid hk0
                  have hbw := hb1.trans (hbW.mono hb1.size)
                  clear hk0 hk13
                  go_wp2
                  exact bodyPost_ret (results_r (t1 := 2) (t3 := 3) (g := w.heap.size) (r := default) Tryz.results10 rfl rfl (rset9 (rset8 (rset7 (rset6 (rset5 (rset4 (rset3 (rset2 (rset1 (rset0 HK0.out))))))))))) rfl ⟨by rw [hz.out.1, hz.out.2]; rfl, ((((((((((hbw.setCell (Nat.le_refl _) _).setCell (Nat.le_refl _) _).setCell (Nat.le_refl _) _).setCell (Nat.le_refl _) _).setCell (Nat.le_refl _) _).setCell (Nat.le_refl _) _).setCell (Nat.le_refl _) _).setCell (Nat.le_refl _) _).setCell (Nat.le_refl _) _).setCell (Nat.le_refl _) _)⟩
              · have d1 : (ppE x2.data.toList != 0) = true := by simpa using q1
                have HT := Lib.hid hT
                clear hT g0 g1' g2' g3' g4 g5 g6 g7 g8 g9
                refine HT.out.mono ?_
                rintro e w13 ⟨rfl, hbx⟩
                have hk13 := blk_below hbx hk12
                have hbW := hb12.trans (hbx.mono hb12.size)
                clear hbx hk12 hb12
                have hz := Lib.hid (fr_none (by rw [HO.out, if_neg (fun h => q1 h.1)]))

                have hk0 := (hbW.block _ sz0).trans HK1.out
                obtain ⟨d0, d1x, d2x, d3x, d4x, d5x, d6x, d7x, d8x, d9x⟩ := blk10 hk0
                have z0 := frozen_row hk0 0
                have z1 := frozen_row hk0 1
                have z2 := frozen_row hk0 2
                have z3 := frozen_row hk0 3
                have z4 := frozen_row hk0 4
                have z5 := frozen_row hk0 5
                have z6 := frozen_row hk0 6
                have z7 := frozen_row hk0 7
                have z8 := frozen_row hk0 8
                have z9 := frozen_row hk0 9
                have HK0 := Lib.hid hk0
                have hbw := hb1.trans (hbW.mono hb1.size)
                clear hk0 hk13
                go_wp2
                exact bodyPost_ret (results_r (t1 := 2) (t3 := 3) (g := w.heap.size) (r := default) Tryz.results10 rfl rfl (rset9 (rset8 (rset7 (rset6 (rset5 (rset4 (rset3 (rset2 (rset1 (rset0 HK0.out))))))))))) rfl ⟨by rw [hz.out.1, hz.out.2]; rfl, ((((((((((hbw.setCell (Nat.le_refl _) _).setCell (Nat.le_refl _) _).setCell (Nat.le_refl _) _).setCell (Nat.le_refl _) _).setCell (Nat.le_refl _) _).setCell (Nat.le_refl _) _).setCell (Nat.le_refl _) _).setCell (Nat.le_refl _) _).setCell (Nat.le_refl _) _).setCell (Nat.le_refl _) _)⟩
        · have hd : ((L.length : Int) != 6) = true := by simp; omega
          have hz := Lib.hid (fr_none (frO_len (l := s.data.toList) (by rw [hP.out]; simpa using h6)))
          clear hown hrd h6 hP
          obtain ⟨c0, c1, c2, c3, c4, c5, c6, c7, c8, c9⟩ := blk10 hk1
          have f0 := frozen_row hk1 0
          have f1 := frozen_row hk1 1
          have f2 := frozen_row hk1 2
          have f3 := frozen_row hk1 3
          have f4 := frozen_row hk1 4
          have f5 := frozen_row hk1 5
          have f6 := frozen_row hk1 6
          have f7 := frozen_row hk1 7
          have f8 := frozen_row hk1 8
          have f9 := frozen_row hk1 9
          have HK1 := Lib.hid hk1
          clear hk1
          go_wp2
          exact bodyPost_ret (results_r (t1 := 2) (t3 := 3) (g := w.heap.size) (r := default) Tryz.results10 rfl rfl (rset9 (rset8 (rset7 (rset6 (rset5 (rset4 (rset3 (rset2 (rset1 (rset0 HK1.out))))))))))) rfl ⟨by rw [hz.out.1, hz.out.2]; rfl, ((((((((((hb1.setCell (Nat.le_refl _) _).setCell (Nat.le_refl _) _).setCell (Nat.le_refl _) _).setCell (Nat.le_refl _) _).setCell (Nat.le_refl _) _).setCell (Nat.le_refl _) _).setCell (Nat.le_refl _) _).setCell (Nat.le_refl _) _).setCell (Nat.le_refl _) _).setCell (Nat.le_refl _) _)⟩
end Go.Proofs.YtakkgamhceignaaGreatDoor

/-
  Walks over the filter's layer: whole filters: the reference's Check, Decides.
-/
namespace Go.Proofs.YtakkgamhceignaaGreatDoor
open Go Go.RowKit Go.Sort

theorem rcell {L : List RuleV} {k i : Nat} {r : RuleV} {v : Value} (h : L[k]? = some r) (hv : r.enc[i]? = some v) : (rcells L)[k * 10 + i]? = some v := flat_get RuleV.enc 10 rule_len L k i r v h hv

end Go.Proofs.YtakkgamhceignaaGreatDoor

/-
  Walks over the filter's layer: Decides; the program's and the reference's (written by wip/gen/genfilt6.py).
-/
namespace Go.Proofs.YtakkgamhceignaaGreatDoor
open Go Go.RowKit Go.Sort

/-- Which rule decides. -/
def decN (L : List RuleV) (h : HeaderV) : Int := idxP (fun r => fitsB r h) L
/-- .. 0 of a filter that is refused. -/
def decR (L : List RuleV) (h : HeaderV) : Int := if filtE L = 0 then decN L h else 0
theorem decR_ok {L : List RuleV} (h : HeaderV) (h1 : filtE L = 0) : decR L h = decN L h := if_pos h1
theorem decR_no {L : List RuleV} (h : HeaderV) (h1 : ¬ filtE L = 0) : decR L h = 0 := if_neg h1

set_option maxHeartbeats 400000 in
theorem fitsClos_any (r : RuleV) (h : HeaderV) (B : Nat) (w : World) (hB : w.heap[B]? = some (.cells #[.int .u32 h.src, .int .u32 h.dst, .int .u8 h.proto, .int .u16 h.sp, .int .u16 h.dp] 68 (0, 0))) :
    Calls Tryz.prog 86 #[.agg #[.bool r.permit, .int .i64 r.proto, .int .u32 r.sa, .int .i64 r.sn, .int .u32 r.da, .int .i64 r.dn, .int .u32 r.sl, .int .u32 r.sh, .int .u32 r.dl, .int .u32 r.dh], .pointer (some ⟨B, 0, none⟩)] w fun e w' => e = .returned (.bool (fitsB r h)) ∧ Below w.heap.size w w' := by
  have hlt := lt_of_block hB
  have hne : B ≠ w.heap.size := Nat.ne_of_lt hlt
  have e0 : w.cell? ⟨B, 0, none⟩ = some (.int .u32 h.src) := cell_of_row w (B) 0 _ _ (0, 0) hB
  have e1 : w.cell? ⟨B, 1, none⟩ = some (.int .u32 h.dst) := cell_of_row w (B) 1 _ _ (0, 0) hB
  have e2 : w.cell? ⟨B, 2, none⟩ = some (.int .u8 h.proto) := cell_of_row w (B) 2 _ _ (0, 0) hB
  have e3 : w.cell? ⟨B, 3, none⟩ = some (.int .u16 h.sp) := cell_of_row w (B) 3 _ _ (0, 0) hB
  have e4 : w.cell? ⟨B, 4, none⟩ = some (.int .u16 h.dp) := cell_of_row w (B) 4 _ _ (0, 0) hB
  clear hB
  go_enter Tryz.func86, Tryz.ntmps86
  go_wp2_with fail
  refine (fits_any r h _).mono ?_
  rintro e w1 ⟨rfl, hb⟩
  have hbw := below_call (below1 w _) hb
  go_wp2
  go_ret
  exact ⟨rfl, hbw⟩
theorem fitsClos_pred (h : HeaderV) (B : Nat) (w : World) (hB : w.heap[B]? = some (.cells #[.int .u32 h.src, .int .u32 h.dst, .int .u8 h.proto, .int .u16 h.sp, .int .u16 h.dp] 68 (0, 0))) : PredBelow Tryz.prog 86 #[.pointer (some ⟨B, 0, none⟩)] (fun x : RuleV => .agg x.enc.toArray) (fun r => fitsB r h) w := fun W r hb =>
  (fitsClos_any r h B W (blk_below hb hB)).mono fun _ _ ⟨he, hb'⟩ => ⟨he, hb.trans (hb'.mono hb.size)⟩

set_option maxHeartbeats 1000000 in
theorem decides_any (nm : ByteArray) (L : List RuleV) (v : Value) (h : HeaderV) (w : World) (hr : Rd w w.heap.size 10 v L.length (rcells L)) :
    Calls Tryz.prog 29 #[.agg #[.string nm, v], .agg #[.int .u32 h.src, .int .u32 h.dst, .int .u8 h.proto, .int .u16 h.sp, .int .u16 h.dp]] w fun e w' => e = .returned (.tuple #[.int .i64 (decR L h), .int .i64 (filtE L)]) ∧ Below w.heap.size w w' := by
  have hW : Below w.heap.size w ((w.alloc (.cells #[.string nm, v] 39)).alloc (.cells #[.int .u32 h.src, .int .u32 h.dst, .int .u8 h.proto, .int .u16 h.sp, .int .u16 h.dp] 68)) := below2 w _ _
  have h' := (hr.below hW).mono hW.size
  obtain ⟨A, c, rfl, hc⟩ := hr.form
  have HR := Lib.hid h'
  clear hr h'
  by_cases h1 : filtE L = 0
  · have hd : (filtE L != 0) = false := by simp [h1]
    have H1 := Lib.hid h1
    have hE := Lib.hid (decR_ok h h1).symm
    have hlen : L.length ≤ 256 := by
      rcases Nat.lt_or_ge 256 L.length with h2 | h2
      · rw [filtE_1 h2] at h1; omega
      · exact h2
    clear h1
    go_enter Tryz.func29, Tryz.ntmps29
    go_wp2_with fail
    refine (filtCheck_any nm L _ _ HR.out).mono ?_
    rintro e w1 ⟨rfl, hb⟩
    have J0 := blk_below hb (blk2 w _ _).1
    have J1 := blk_below hb (blk2 w _ _).2
    have hbw := below_call hW hb
    have hcon := Lib.hid (indexRule_any L _ (fun r => fitsB r h) 86 #[.pointer (some ⟨w.heap.size + 1, 0, none⟩)] _ (enters_of Tryz.func86 (by kernel_rfl) rfl) (fitsClos_pred h _ _ J1) ((HR.out.below hb).mono hb.size) (by omega))
    obtain ⟨ca, cb, _, _⟩ := two_cells J0
    have l0 := lt_of_block J0
    clear hb J0 J1 hW HR
    have hdec : Hid (idxP (fun r => fitsB r h) L = decN L h) := rfl
    generalize idxP (fun r => fitsB r h) L = D at *
    go_wp2_with fail
    refine hcon.out.mono ?_
    rintro e w2 ⟨rfl, hb2⟩
    have hbw2 := below_call hbw hb2
    go_wp2
    go_ret2
    exact ⟨rt2 ⟨vi (by rw [hdec.out]; exact hE.out), vi H1.out.symm⟩, hbw2⟩
  · have hd : (filtE L != 0) = true := by simp [h1]
    have hE := Lib.hid (decR_no h h1).symm
    clear h1
    go_enter Tryz.func29, Tryz.ntmps29
    go_wp2_with fail
    refine (filtCheck_any nm L _ _ HR.out).mono ?_
    rintro e w1 ⟨rfl, hb⟩
    have hbw := below_call hW hb
    go_wp2
    go_ret2
    exact ⟨rt2 ⟨vi hE.out, rfl⟩, hbw⟩

end Go.Proofs.YtakkgamhceignaaGreatDoor
