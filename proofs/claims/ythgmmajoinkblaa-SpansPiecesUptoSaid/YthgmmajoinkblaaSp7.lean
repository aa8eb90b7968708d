/-
  The walk of the document's put: a number put in its place, once.
-/
import Derived.Test.YthgmmajoinkblaaSpMath4
import Derived.Test.YthgmmajoinkblaaProg
import Derived.Test.YthgmmajoinkblaaKit4
import Derived.Deep.DeepCutAuto
import Derived.Deep.RegionLaw
import Derived.Deep.CutBlock
namespace Go.Proofs.Ythgmmajoinkblaa
open Go Go.RowKit Go.Lib Go.Sort

theorem Try.infoU32s : (Try.prog.info? 23).map (fun i => (i.zero, i.size, i.bytes)) = some (some (.int .u32 0), 1, 4) := by kernel_rfl
def encU (l : List Int) : List Value := l.map (Value.int .u32 ·)
theorem encU_len (l : List Int) : (encU l).length = l.length := by simp [encU]
theorem encU_at {l : List Int} {i : Nat} {x : Int} (h : l[i]? = some x) : (encU l)[i]? = some (.int .u32 x) := by simp [encU, h]
theorem encU_append (a b : List Int) : encU (a ++ b) = encU a ++ encU b := by simp [encU]
theorem encU_one (l : List Int) : ∀ u ∈ encU l, u.oneCell' = true := by
  intro u hu
  obtain ⟨x, _, rfl⟩ := List.mem_map.1 hu
  rfl
theorem below_drew7 {B : Nat} {a w : World} (h : Below B a w) : Below B a w.drew := ⟨h.os, h.tape, h.output, h.size, h.block⟩
theorem put_cells {l : List Int} {k : Nat} (hk : k ≤ l.length) {x : Int} {cur : List Value} {z : Value} (h : cur.take ((l.length + 1) * 1) = encU l ++ [z]) :
    ((splice cur (k + 1) (encU (l.drop k))).take (l.length + 1)).set k (.int .u32 x) = encU (l.take k ++ x :: l.drop k) := by
  rw [Nat.mul_one] at h
  obtain ⟨v, hv⟩ : ∃ v, cur.take (k + 1) = encU (l.take k) ++ [v] := by
    have e : cur.take (k + 1) = (encU l ++ [z]).take (k + 1) := by
      rw [← h, List.take_take]; congr 1; omega
    obtain ⟨v, hv⟩ : ∃ v, (encU l ++ [z])[k]? = some v := ⟨_, List.getElem?_eq_getElem (by simp [encU]; omega)⟩
    refine ⟨v, ?_⟩
    rw [e, List.take_add_one, hv, List.take_append_of_le_length (by rw [encU_len]; exact hk)]
    simp [encU, List.map_take]
  have hl : (encU (l.take k) ++ [v]).length = k + 1 := by simp [encU]; omega
  unfold splice
  rw [hv, ← List.append_assoc, List.take_append_of_le_length (by simp [encU]; omega), List.take_of_length_le (by simp [encU]; omega), encU_append]
  rw [List.append_assoc, List.set_append_right _ _ (by simp [encU]; omega)]
  have e0 : k - (encU (l.take k)).length = 0 := by simp [encU]; omega
  rw [e0]
  rfl
def PutRes (V : Value) (l : List Int) (x most : Int) (base : Nat) (w : World) (e : Ending) (w' : World) : Prop :=
  ∃ (v : Value) (m : List Int), e = .returned v ∧ w'.ownsRow base 23 1 v m.length (encU m) ∧ Rising m ∧ (∀ y, y ∈ m ↔ y ∈ l ∨ (y = x ∧ x ≤ most)) ∧ m.length ≤ l.length + 1 ∧ w.grownBy w' V.ownBlock

set_option maxRecDepth 100000 in
set_option maxHeartbeats 4000000 in
theorem put_any (l : List Int) (v : Value) (x most : Int) (base : Nat) (w : World) (hown : w.ownsRow base 23 1 v l.length (encU l)) (hr : Rising l) (hb : ∀ y ∈ l, 0 ≤ y ∧ y < 4294967296) (hx : 0 ≤ x ∧ x < 4294967296) (hbase : base ≤ w.heap.size) (hlen : l.length ≤ 1099511627776) :
    Calls Try.prog 55 #[v, .int .u32 x, .int .u32 most] w (PutRes v l x most base w) := by
  obtain ⟨i0, hi, hz0, hz1, hz2⟩ := info_parts Try.infoU32s
  obtain ⟨A0, c0, rfl, hA0⟩ := owns_form hown
  go_enter Try.func55, Try.ntmps55
  by_cases hxm : x ≤ most
  · have HB := Lib.hid hb
    have HR := Lib.hid hr
    clear hb hr
    go_upto_block 0 with fail
    go_cut [7] (fun s7 wx => wx = w ∧ ∃ k : Nat, s7 = .int .i64 k ∧ k ≤ l.length ∧ (∀ j y, k ≤ j → l[j]? = some y → x < y) ∧ (0 < k → ∃ y, l[k - 1]? = some y ∧ y ≤ x))
    case first =>
      go_wp2_with fail
      go_loop [7] (fun i => ∃ k : Nat, i = .int .i64 k ∧ k ≤ l.length ∧ ∀ j y, k ≤ j → l[j]? = some y → x < y) (fun i => (intOf i).toNat)
      case atStart => exact ⟨l.length, rfl, by omega, fun j y hj h => by have := (List.getElem?_eq_some_iff.1 h).1; omega⟩
      case round =>
        obtain ⟨k, rfl, hk, hgt⟩ := hrel
        rcases k with _ | k
        · have HG := Lib.hid hgt
          clear hgt
          go_wp2
          go_meet
          exact ⟨rfl, 0, rfl, by omega, HG.out, fun h => absurd h (by omega)⟩
        · obtain ⟨y, hy⟩ : ∃ y, l[k]? = some y := ⟨_, List.getElem?_eq_getElem (by omega)⟩
          obtain ⟨g, rfl⟩ := hA0 (by omega)
          have e0 : w.cell? ⟨g, k, none⟩ = some (.int .u32 y) := (hown.cellAt k (by omega)).trans (encU_at hy)
          have HG := Lib.hid hgt
          have HY := Lib.hid hy
          clear hgt hy
          by_cases hxy : x < y
          · go_wp2
            go_roundw
            case rel =>
              refine ⟨k, by go_num, by omega, fun j z hj hz => ?_⟩
              rcases Nat.eq_or_lt_of_le hj with rfl | hj
              · rw [HY.out] at hz
                injection hz with hz
                omega
              · exact HG.out j z hj hz
            case measure => simp only [intOf]; omega
          · go_wp2
            go_meet
            exact ⟨rfl, k + 1, rfl, by omega, HG.out, fun _ => ⟨y, HY.out, by omega⟩⟩
    case rest =>
      obtain ⟨rfl, k, rfl, hk, hgt, hle⟩ := hcut
      have HG := Lib.hid hgt
      clear hgt
      go_upto_region 6 with fail
      go_cut [37] (fun s37 wx => wx = wc ∧ ((s37 = .bool true ∧ x ∈ l) ∨ (s37 = .bool false ∧ ∀ y ∈ l.take k, y < x)))
      case first =>
        rcases k with _ | m
        · go_wp2
          go_meet
          exact ⟨rfl, .inr ⟨rfl, by simp⟩⟩
        · obtain ⟨y, hy, hyx⟩ := hle (by omega)
          have hy' : l[m]? = some y := hy
          obtain ⟨g, rfl⟩ := hA0 (by omega)
          have e0 : wc.cell? ⟨g, m, none⟩ = some (.int .u32 y) := (hown.cellAt m (by omega)).trans (encU_at hy')
          have HY := Lib.hid hy'
          clear hy hy' hle
          by_cases hxy : y = x
          · subst hxy
            go_wp2
            go_meet
            exact ⟨rfl, .inl ⟨rfl, List.mem_of_getElem? HY.out⟩⟩
          · have hb1 : (y == x) = false := by simp [hxy]
            go_wp2
            go_meet
            refine ⟨rfl, .inr ⟨rfl, fun z hz => ?_⟩⟩
            obtain ⟨j, hj, e⟩ := List.getElem_of_mem hz
            have hj' : j < m + 1 := by simp at hj; omega
            rw [List.getElem_take] at e
            obtain ⟨hm, em⟩ := List.getElem?_eq_some_iff.1 HY.out
            rcases Nat.lt_or_ge j m with h | h
            · have := List.pairwise_iff_getElem.1 HR.out j m (by omega) hm h
              omega
            · obtain rfl : j = m := by omega
              omega
      case rest =>
        obtain ⟨rfl, hres⟩ := hcut
        rcases hres with ⟨rfl, hin⟩ | ⟨rfl, hlt⟩
        · have HI := Lib.hid hin
          clear hin hle
          go_wp2
          go_ret
          exact ⟨_, l, rfl, hown, HR.out, fun y => ⟨.inl, fun h => h.elim id (fun h => by rw [h.1]; exact HI.out)⟩, by omega, World.grownBy.refl _ _⟩
        · have hgt : ∀ y ∈ l.drop k, x < y := by
            intro y hy
            obtain ⟨j, hj, e⟩ := List.getElem_of_mem hy
            rw [List.getElem_drop] at e
            exact HG.out (k + j) y (by omega) (by rw [← e]; exact List.getElem?_eq_getElem _)
          have HP := Lib.hid (rising_put HR.out hlt hgt)
          clear hlt hgt hle
          go_wp2_with (at_builtin; refine wpList_push2 (v := .slice A0 l.length c0) rfl _ _ 27 rfl 23 i0 _ 1 4 Try.underlying27 hi hz0 hz1 hz2 rfl (by decide) (by decide) [.int .u32 0] rfl rfl (by simp) hown rfl (encU_one [0]) (by omega) hbase ?_; intro v2 w2 hown2 hgr hmv)
          obtain ⟨A2, c2, rfl, hA2⟩ := owns_form hown2
          obtain ⟨g2, rfl⟩ := hA2 (by omega)
          obtain ⟨cur, hg2, hc2, hcm, hcs, htk, hbg⟩ := owns_block hown2
          have hsrc : ∀ j u, (encU (l.drop k))[j]? = some u → w2.cell? ((⟨g2, k, none⟩ : Addr).add j) = some u := by
            intro j u hu
            have e : (⟨g2, k, none⟩ : Addr).add j = ⟨g2, k + j, none⟩ := by simp [Addr.add]
            have hj := (List.getElem?_eq_some_iff.1 hu).1
            rw [encU_len, List.length_drop] at hj
            rw [e, hown2.cellAt (k + j) (by omega), List.getElem?_append_left (by rw [encU_len]; omega)]
            simpa [encU] using hu
          have hcap : k + 1 + (encU (l.drop k)).length ≤ cur.toList.length := by
            rw [encU_len]; simp; omega
          have HTK := Lib.hid htk
          have HGR := Lib.hid hgr
          have HMV := Lib.hid hmv
          clear hown2 hown htk hgr hmv
          have hwr : IntKind.i64.wrap ((k : Int) + 1) = (k : Int) + 1 := by
            simp only [IntKind.wrap, IntKind.bits, IntKind.signed]
            simp
            omega
          have hi3 : (k : Int) ≤ (l.length : Int) + 1 := by omega
          have hi0 : (0 : Int) ≤ (k : Int) + 1 := by omega
          have hne : ¬ c2 = k := by omega
          go_upto_region 9 with fail
          go_cut [] (fun wx => Hid (wx.heap[g2]? = some (.cells (splice cur.toList (k + 1) (encU (l.drop k))).toArray 23 (0, 0))) ∧ w2.grownBy wx (some g2))
          case first =>
            by_cases hck : c2 = k + 1
            · subst hck
              obtain rfl : k = l.length := by omega
              have hpos : ¬ 0 < (encU (l.drop l.length)).length := by simp [encU]
              go_region_law (refine step_copy_grown rfl (.tmp 45) (.tmp 48) 27 27 rfl 23 Try.underlying27 (by kernel_rfl) (some ⟨g2, 0, none⟩) (some ⟨g2, l.length, none⟩) 0 0 1 1 (by go_simp) (by go_simp) g2 (l.length + 1) cur.toList 23 hg2 (encU (l.drop l.length)) (by simp [encU]) (fun h => absurd h hpos) hcap (encU_one _) ?_; intro w4 hg4 hb4)
              all_goals (go_wp2_with fail; go_meet; exact ⟨hg4, (only_drew (World.grownBy.refl w2 (some g2))).trans hb4⟩)
            · go_region_law (refine step_copy_grown rfl (.tmp 45) (.tmp 48) 27 27 rfl 23 Try.underlying27 (by kernel_rfl) (some ⟨g2, k + 1, none⟩) (some ⟨g2, k, none⟩) (l.length - k) (c2 - (k + 1)) (l.length + 1 - k) (c2 - k) (by go_simp) (by go_simp) g2 (k + 1) cur.toList 23 hg2 (encU (l.drop k)) (by rw [encU_len, List.length_drop]; show _ = min (l.length + 1 - k) (l.length - k); omega) (fun _ => ⟨rfl, _, rfl, hsrc⟩) hcap (encU_one _) ?_; intro w4 hg4 hb4)
              all_goals (go_wp2_with fail; go_meet; exact ⟨hg4, (only_drew (World.grownBy.refl w2 (some g2))).trans hb4⟩)
          case rest =>
            obtain ⟨hg4, hb4⟩ := hcut
            have hlen4 : (splice cur.toList (k + 1) (encU (l.drop k))).length = cur.toList.length := length_splice _ _ _ hcap
            have hcl : cur.toList.length = cur.size := Array.length_toList
            have own4 := owns_of_block (size := 1) (n := l.length + 1) (xs := (splice cur.toList (k + 1) (encU (l.drop k))).take (l.length + 1)) hg4.out hc2 hcm (by rw [List.size_toArray, hlen4, hcl, hcs]) (by simp) (by rw [List.length_take, hlen4, hcl, hcs]; omega) hbg
            have hcur := put_cells hk (x := x) HTK.out
            have s1 := own4.stored k (.int .u32 x)
            rw [hcur] at s1
            have c1 : (l.take k ++ x :: l.drop k).length = l.length + 1 := by simp; omega
            have z1 := own4.frozenAt k
            obtain ⟨u, hu⟩ : ∃ u, wc.cell? ⟨g2, k, none⟩ = some u := by
              refine ⟨_, (own4.cellAt k (by omega)).trans (List.getElem?_eq_getElem (by rw [List.length_take, hlen4, hcl, hcs]; omega))⟩
            have HS := Lib.hid s1
            have HB4 := Lib.hid hb4
            clear s1 own4 hb4 hsrc hcur hg2
            have hi5 : (k : Int) < (l.length : Int) + 1 := by omega
            go_wp2
            go_ret
            refine ⟨_, l.take k ++ x :: l.drop k, rfl, ?_, HP.out.1, fun y => (HP.out.2 y).trans ⟨fun h => h.imp id (fun h => ⟨h, hxm⟩), fun h => h.imp id (fun h => h.1)⟩, by omega, grown_moved HGR.out HMV.out rfl (HB4.out.trans HS.out.2)⟩
            rw [c1]
            exact HS.out.1
  · go_wp2
    go_ret
    exact ⟨_, l, rfl, hown, hr, fun y => ⟨.inl, fun h => h.elim id (fun h => by omega)⟩, by omega, World.grownBy.refl _ _⟩

end Go.Proofs.Ythgmmajoinkblaa
