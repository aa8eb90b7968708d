/-
  Walks over the document's addresses: Parse.
-/
import Derived.Test.YtdlhpiknifcehaaDoorAt3
import Derived.Test.YtdlhpiknifcehaaDoorKit3
namespace Go.Proofs.YtdlhpiknifcehaaDoor
open Go Go.RowKit Go.Sort

theorem Tryd.infoStr : (Tryd.prog.info? 9).map (fun i => (i.zero, i.size, i.bytes)) = some (some (.string ByteArray.empty), 1, 16) := by kernel_rfl
def PInv (l : List UInt8) (k f : Nat) (L : List ByteArray) : Prop :=
  (k ≤ l.length ∧ f ≤ k ∧ pieces 46 l = L.map (·.data.toList) ++ pieces 46 (l.drop f) ∧ (46 : UInt8) ∉ (l.drop f).take (k - f)) ∨ (k = l.length + 1 ∧ pieces 46 l = L.map (·.data.toList))
theorem one_str (x : ByteArray) : ∀ u ∈ [Value.string x], u.oneCell' = true := by intro u hu; simp at hu; subst hu; rfl
theorem pinv_start (l : List UInt8) : PInv l 0 0 [] := Or.inl ⟨Nat.zero_le _, Nat.le_refl _, by simp, by simp⟩
theorem pinv_skip {l : List UInt8} {k f : Nat} {L : List ByteArray} {x : UInt8} (h : PInv l k f L) (hk : l[k]? = some x) (hx : x ≠ 46) : PInv l (k + 1) f L := by
  have hkl := (List.getElem?_eq_some_iff.1 hk).1
  rcases h with ⟨h1, h2, h3, h4⟩ | ⟨h1, _⟩
  · refine Or.inl ⟨by omega, by omega, h3, ?_⟩
    rw [show k + 1 - f = (k - f) + 1 by omega, List.take_add_one]
    have e : (l.drop f)[k - f]? = some x := by rw [List.getElem?_drop, show f + (k - f) = k by omega, hk]
    rw [e]
    intro h
    rcases List.mem_append.1 h with h | h
    · exact h4 h
    · simp at h; exact hx h.symm
  · omega
theorem drop_split {l : List UInt8} {k f : Nat} (hf : f ≤ k) (hk : l[k]? = some 46) : l.drop f = (l.drop f).take (k - f) ++ 46 :: l.drop (k + 1) := by
  have hkl := (List.getElem?_eq_some_iff.1 hk).1
  have e : (l.drop f).drop (k - f) = 46 :: l.drop (k + 1) := by
    rw [List.drop_drop, show f + (k - f) = k by omega, List.drop_eq_getElem_cons hkl]
    congr 1
    exact Option.some.inj ((List.getElem?_eq_getElem hkl).symm.trans hk)
  rw [← e, List.take_append_drop]
theorem pinv_cut {l : List UInt8} {k f : Nat} {L : List ByteArray} {b : ByteArray} (h : PInv l k f L) (hk : l[k]? = some 46) (hb : b.data.toList = (l.drop f).take (k - f)) : PInv l (k + 1) (k + 1) (L ++ [b]) := by
  have hkl := (List.getElem?_eq_some_iff.1 hk).1
  rcases h with ⟨h1, h2, h3, h4⟩ | ⟨h1, _⟩
  · refine Or.inl ⟨by omega, Nat.le_refl _, ?_, by simp⟩
    rw [h3, drop_split h2 hk, pieces_cons _ h4, List.map_append, List.append_assoc]
    simp [hb]
  · omega
theorem pinv_end {l : List UInt8} {f : Nat} {L : List ByteArray} {b : ByteArray} (h : PInv l l.length f L) (hb : b.data.toList = (l.drop f).take (l.length - f)) : PInv l (l.length + 1) (l.length + 1) (L ++ [b]) := by
  rcases h with ⟨h1, h2, h3, h4⟩ | ⟨h1, _⟩
  · refine Or.inr ⟨rfl, ?_⟩
    have e : (l.drop f).take (l.length - f) = l.drop f := List.take_of_length_le (by simp)
    rw [e] at h4 hb
    rw [h3, pieces_none h4, List.map_append]
    simp [hb]
  · omega
theorem pinv_done {l : List UInt8} {f : Nat} {L : List ByteArray} (h : PInv l (l.length + 1) f L) : pieces 46 l = L.map (·.data.toList) := by
  rcases h with ⟨h1, _⟩ | ⟨_, h⟩
  · omega
  · exact h

set_option maxRecDepth 100000 in
set_option maxHeartbeats 4000000 in
theorem refParse_any (s : ByteArray) (w : World) (hlim : s.size < 4294967281) :
    Calls Tryd.prog 13 #[.string s] w fun e w' => e = .returned (.tuple #[.int .u32 (adV (parseB s.data.toList)), .int .i64 (adE (parseB s.data.toList))]) ∧ Below w.heap.size w w' := by
  obtain ⟨i0, hi, hz0, hz1, hz2⟩ := info_parts Tryd.infoStr
  have HS := Lib.hid (show s.size = s.data.toList.length from (Array.length_toList).symm)
  have t9 := Tryd.underlying9
  have HQ := Lib.hid (show ∀ (i : Nat) (h : i < s.size), Hid (s.data.toList[i]? = some (s[i]'h)) from fun i h => Lib.hid (by
    rw [Array.getElem?_toList]
    exact Array.getElem?_eq_getElem (xs := s.data) (i := i) h))
  go_enter Tryd.func13, Tryd.ntmps13
  go_wp2
  go_loopw [4, 5, 6] (fun v fr i wr => ∃ (k f : Nat) (L : List ByteArray), i = .int .i64 k ∧ fr = .int .i64 f ∧ wr.ownsRow w.heap.size 9 1 v L.length (L.map Value.string) ∧ Hid (PInv s.data.toList k f L) ∧ f ≤ k ∧ k ≤ s.size + 1 ∧ L.length ≤ k ∧ Below w.heap.size w wr) (fun _ _ i _ => s.size + 1 - (intOf i).toNat)
  case atStart => exact ⟨0, 0, [], rfl, rfl, World.ownsRow_nil _ _ _ _, Lib.hid (pinv_start _), by omega, by omega, by simp, Below.refl _ _⟩
  case round =>
    obtain ⟨k, f, L, rfl, rfl, hown, hp, hf, hk, hLk, hb⟩ := hrel
    by_cases hlt : k < s.size
    · have hI3 : (k : Int) < (s.size : Int) := by omega
      have hI4 : (0 : Int) ≤ k := by omega
      have hI5 : (k : Int) ≤ (s.size : Int) := by omega
      have hI6 : ((k : Int) == (s.size : Int)) = false := by simp; omega
      have hx := HQ.out k hlt
      obtain ⟨v, hv⟩ : ∃ v : Int, ((s[k]'hlt).toNat : Int) = v := ⟨_, rfl⟩
      by_cases h46 : s[k]'hlt = 46
      · have hv2 : (v == 46) = true := by rw [← hv, h46]; rfl
        have hcut := Lib.hid (pinv_cut (b := s.extract f k) hp.out (by rw [hx.out, h46]) (by rw [Lib.extract_data]))
        clear h46 hx hp
        go_wp2_with (at_builtin; refine wpList_push rfl _ _ 36 rfl 9 i0 _ 1 16 Tryd.underlying36 hi hz0 hz1 hz2 rfl (by decide) (by decide) [.string (s.extract f k)] rfl rfl (by simp) hown rfl (one_str _) (by omega) hb.size hb (Nat.le_refl _) ?_; intro v2 w2 hown2 hb2)
        have hown3 : w2.ownsRow w.heap.size 9 1 v2 (L ++ [s.extract f k]).length ((L ++ [s.extract f k]).map Value.string) := by
          rw [List.length_append, List.map_append]; exact hown2
        clear hown2 hown
        go_wp2
        exact ⟨⟨k + 1, k + 1, L ++ [s.extract f k], by go_num, by go_num, hown3, hcut, by omega, by omega, by simp; omega, hb2⟩, by simp only [intOf]; omega⟩
      · have hv2 : (v == 46) = false := by
          simp
          intro h
          apply h46
          apply UInt8.toNat_inj.1
          have : (46 : UInt8).toNat = 46 := rfl
          omega
        have hskip := Lib.hid (pinv_skip hp.out hx.out h46)
        clear h46 hx hp
        go_wp2
        exact ⟨⟨k + 1, f, L, by go_num, rfl, hown, hskip, by omega, by omega, by omega, hb⟩, by simp only [intOf]; omega⟩
    · by_cases heq : k = s.size
      · subst heq
        have hI5 : (s.size : Int) ≤ (s.size : Int) := by omega
        have hI6 : ((s.size : Int) == (s.size : Int)) = true := by simp
        have hcut := Lib.hid (pinv_end (b := s.extract f s.size) (by have h := hp.out; rw [HS.out] at h; exact h) (by rw [Lib.extract_data, HS.out]))
        have hcut2 : Hid (PInv s.data.toList (s.size + 1) (s.size + 1) (L ++ [s.extract f s.size])) := Lib.hid (by have h := hcut.out; rw [← HS.out] at h; exact h)
        clear hcut hp hlt
        go_wp2_with (at_builtin; refine wpList_push rfl _ _ 36 rfl 9 i0 _ 1 16 Tryd.underlying36 hi hz0 hz1 hz2 rfl (by decide) (by decide) [.string (s.extract f s.size)] rfl rfl (by simp) hown rfl (one_str _) (by omega) hb.size hb (Nat.le_refl _) ?_; intro v2 w2 hown2 hb2)
        have hown3 : w2.ownsRow w.heap.size 9 1 v2 (L ++ [s.extract f s.size]).length ((L ++ [s.extract f s.size]).map Value.string) := by
          rw [List.length_append, List.map_append]; exact hown2
        clear hown2 hown
        go_wp2
        exact ⟨⟨s.size + 1, s.size + 1, L ++ [s.extract f s.size], by go_num, by go_num, hown3, hcut2, by omega, by omega, by simp; omega, hb2⟩, by simp only [intOf]; omega⟩
      · obtain rfl : k = s.size + 1 := by omega
        have hI5 : ¬ ((s.size + 1 : Nat) : Int) ≤ (s.size : Int) := by omega
        have hP := Lib.hid (pinv_done (by have h := hp.out; rw [HS.out] at h; exact h) : pieces 46 s.data.toList = L.map (·.data.toList))
        have hrd := Rd.of_own hown
        clear hp hlt heq
        obtain ⟨A, c, rfl, hcap⟩ := hrd.form
        by_cases h4 : L.length = 4
        · have hd : ((L.length : Int) != 4) = false := by simp; omega
          obtain ⟨b, off, c', hv, _, hbB, hcell⟩ := hrd.pos (by omega)
          injection hv with hv1 _ hv3
          subst hv1 hv3
          have HC := Lib.hid (show ∀ (j : Nat) (x : ByteArray), L[j]? = some x → wr.cell? ⟨b, off + j, none⟩ = some (.string x) from fun j x hx => hcell j _ (by rw [List.getElem?_map, hx]; rfl))
          have hQ := Lib.hid (parseB_four (l := s.data.toList) (by rw [hP.out]; simpa using h4))
          have HE := Lib.hid (show ∀ (k : Nat) (x : ByteArray), L[k]? = some x → (pieces 46 s.data.toList)[k]? = some x.data.toList from fun k x h => by rw [hP.out, List.getElem?_map, h]; rfl)
          clear hown hrd hcell hP
          go_wp2
          go_loop [7, 8] (fun a i => ∃ k n : Nat, i = .int .i64 k ∧ a = .int .i64 n ∧ k ≤ 4 ∧ Hid (accB (pieces 46 s.data.toList) k = some n)) (fun _ i => 4 - (intOf i).toNat)
          case atStart => exact ⟨0, 0, rfl, rfl, by omega, Lib.hid (show accB (pieces 46 s.data.toList) 0 = some 0 from rfl)⟩
          case round =>
            obtain ⟨k, n, rfl, rfl, hk4, hacc⟩ := hrel
            have hnb := accB_lt hacc.out hk4
            have hn32 : n < 4294967296 := Nat.lt_of_lt_of_le hnb (Nat.le_trans (Nat.pow_le_pow_right (by decide) hk4) (by decide))
            by_cases hk5 : k < 4
            · obtain ⟨x, hx⟩ : ∃ x, L[k]? = some x := ⟨_, List.getElem?_eq_getElem (by omega)⟩
              have hcx := HC.out k x hx
              have hpx := Lib.hid (HE.out k x hx)
              have hI7 : (k : Int) < 4 := by omega
              have hI8 : (0 : Int) ≤ k := by omega
              have hI9 : (k : Int) < (L.length : Int) := by omega
              clear hx hnb
              go_wp2_with fail
              refine (refRead_any x 255 (by omega) _).mono ?_
              rintro e w3 ⟨rfl, rfl⟩
              cases hrd : readB x.data.toList 255 with
              | none =>
                have hr := rdV_none hrd
                have hz := Lib.hid (show parseB s.data.toList = none by rw [hQ.out]; exact accB_none hpx.out hrd 4 hk5)
                clear hrd
                go_wp2
                go_ret2
                exact ⟨by rw [hz.out]; rfl, hb⟩
              | some v =>
                have hr := rdV_some hrd
                have hv := readB_le hrd
                have hstep := Lib.hid (accB_step hacc.out hpx.out hrd)
                have w1 : wrap64 (256 * (n : Int)) = 256 * (n : Int) := by unfold wrap64; omega
                have w2 : wrap64 (256 * (n : Int) + (v : Int)) = 256 * (n : Int) + (v : Int) := by unfold wrap64; omega
                have W2 := Lib.hid w2
                clear hrd
                go_wp2
                clear w1 w2
                exact ⟨⟨k + 1, n * 256 + v, by go_num, vint (by first | (rw [W2.out]; clear W2; omega) | (clear W2; omega)), by clear W2; omega, hstep⟩, by clear W2; simp only [intOf]; omega⟩
            · obtain rfl : k = 4 := by omega
              have hz := Lib.hid (show parseB s.data.toList = some n by rw [hQ.out]; exact hacc.out)
              clear hnb
              go_wp2
              go_ret2
              exact ⟨by rw [hz.out]; rfl, hb⟩
        · have hd : ((L.length : Int) != 4) = true := by simp; omega
          have hz := Lib.hid (parseB_not (l := s.data.toList) (by rw [hP.out]; simpa using h4))
          clear hown hrd h4
          go_wp2
          go_ret2
          exact ⟨by rw [hz.out]; rfl, hb⟩
end Go.Proofs.YtdlhpiknifcehaaDoor
